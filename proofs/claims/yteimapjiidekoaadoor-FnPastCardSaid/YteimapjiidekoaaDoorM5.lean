/- Stores: many puts at one path, in plain words. No condition. -/
import Derived.Test.YteimapjiidekoaaDoorM4
import Derived.Test.YteimapjiidekoaaDoorKvH
import Derived.Test.YteimapjiidekoaaDoorM8
import Derived.Deep.DeepCutAuto
import Derived.HandedShaped
import Derived.Handed
import Derived.Test.YteimapjiidekoaaDoorRows
import Derived.Test.YteimapjiidekoaaDoorCards
import Derived.Test.YteimapjiidekoaaDoorTie
import Derived.ProofKit
import Derived.LaidMore
import Derived.LaidLaws
import Derived.OpenShut
import Derived.Stop.Joined
import Derived.SevenTiedAt
import Derived.Lib.LaidTab
import Derived.Lay
import Derived.Test.YteimapjiidekoaaDoorM6
namespace Go.Proofs.YteimapjiidekoaaDoor
open Go.RowKit
set_option linter.unusedVariables false
theorem ix_at {us : List Entry} (h : storeOk us = true) {s : ByteArray} {j : Nat} (hj : j < us.length) (he : us[j].path = s) : ixP (hasP s) us 0 = (j : Int) := by
  rcases ixP_spec (hasP s) us 0 with ⟨-, hall⟩ | ⟨i, hi, hx, hhit, -⟩
  · have := hall us[j] (List.getElem_mem hj)
    rw [hasP, eqB_iff.2 he] at this; cases this
  · have hij : i = j := (store_rises h).inj (by simpa using hi) (by simpa using hj) (by simp only [List.getElem_map]; rw [eqB_iff.1 hhit, he])
    rw [hx, hij, Nat.zero_add]
theorem cur_at {us : List Entry} (h : storeOk us = true) {s : ByteArray} {j : Nat} (hj : j < us.length) (he : us[j].path = s) : curK us s = lastE us[j] := by
  rw [curK, ix_at h hj he, if_pos (by omega), Int.toNat_natCast, List.getElem?_eq_getElem hj]; rfl
theorem pushE_first (v : Ver) (e : Entry) : (pushE v e).first = if e.vs.length < 8 then e.first else e.first + 1 := by
  unfold pushE; split <;> rfl
theorem pushE_last {v : Ver} {e : Entry} (h1 : 1 ≤ e.vs.length) : lastE (pushE v e) = lastE e + 1 := by
  unfold pushE lastE
  split
  · simp only [List.length_append, List.length_cons, List.length_nil]; omega
  · simp only [List.length_append, List.length_drop, List.length_cons, List.length_nil]; omega
/-- A put at a path that is there, with the right number and with room. -/
theorem put_at {us : List Entry} {s : ByteArray} {j : Nat} {data : List UInt8} {cas now : Int} (h : storeOk us = true) (hs : pathF s = true) (hj : j < us.length) (he : us[j].path = s) (hd : data.length ≤ 300) (hn : inR now 0 1000000000 = true) (hc : cas = lastE us[j] ∨ cas < 0) (hl : lastE us[j] ≤ 999000) :
    putK us s data cas now = (us.set j (pushE (newV data now) us[j]), 0, lastE us[j] + 1) ∧ storeOk (us.set j (pushE (newV data now) us[j])) = true := by
  obtain ⟨-, hf, hv1, hv8, -⟩ := (ok_entry h).2 us[j] (List.getElem_mem hj)
  have hfl : (pushE (newV data now) us[j]).first ≤ 1000000 := by
    rw [pushE_first]
    unfold lastE at hl
    split <;> omega
  have hok : storeOk (us.set j (pushE (newV data now) us[j])) = true := by rw [push_ok h hj (newV_ok hd hn)]; exact decide_eq_true hfl
  refine ⟨?_, hok⟩
  rw [putK, if_pos (by simp [h, hs, hn]; omega), cur_at h hj he, if_neg (by omega), ix_at h hj he, if_pos (by omega), Int.toNat_natCast, modify_set hj, if_pos hok]
theorem put_stale {us : List Entry} {s : ByteArray} {j : Nat} {data : List UInt8} {cas now : Int} (h : storeOk us = true) (hs : pathF s = true) (hj : j < us.length) (he : us[j].path = s) (hd : data.length ≤ 300) (hn : inR now 0 1000000000 = true) (hc : 0 ≤ cas ∧ ¬ cas = lastE us[j]) :
    putK us s data cas now = (us, 5, 0) := by
  rw [putK, if_pos (by simp [h, hs, hn]; omega), cur_at h hj he, if_pos hc]
/-- A path whose last versions are known (the youngest first). -/
structure PastI (us : List Entry) (s : ByteArray) (last : Int) (hs : List UInt8) : Prop where
  ok : storeOk us = true
  path : pathF s = true
  at_ : ∃ j, ∃ hj : j < us.length, us[j].path = s ∧ lastE us[j] = last ∧ (hs.take 8).map (fun b => newV [b] 5) <+: us[j].vs.reverse
theorem past_push {us : List Entry} {s : ByteArray} {last : Int} {hs : List UInt8} (h : PastI us s last hs) (hl : last ≤ 999000) (b : UInt8) : putK us s [b] last 5 = ((putK us s [b] last 5).1, 0, last + 1) ∧ PastI (putK us s [b] last 5).1 s (last + 1) (b :: hs) := by
  obtain ⟨h1, h2, j, hj, he, hla, hp⟩ := h
  obtain ⟨-, -, hv1, hv8, -⟩ := (ok_entry h1).2 us[j] (List.getElem_mem hj)
  obtain ⟨e1, hok⟩ := put_at (data := [b]) (cas := last) (now := 5) h1 h2 hj he (by simp) (by decide) (.inl hla.symm) (by omega)
  rw [e1, hla]
  refine ⟨rfl, hok, h2, j, by simpa using hj, ?_, ?_, ?_⟩
  · rw [List.getElem_set_self, pushE_path, he]
  · rw [List.getElem_set_self, pushE_last hv1, hla]
  · rw [List.getElem_set_self]
    show (newV [b] 5 :: (hs.take 7).map _) <+: _
    have h7 : (hs.take 7).map (fun b => newV [b] 5) <+: us[j].vs.reverse := (((List.take_prefix_take_left (l := hs) (by decide : 7 ≤ 8))).map _).trans hp
    unfold pushE
    split
    · show _ <+: (us[j].vs ++ [newV [b] 5]).reverse
      rw [List.reverse_append]
      exact (List.prefix_cons_inj _).2 h7
    · next h8 =>
      have hl8 : us[j].vs.length = 8 := by omega
      show _ <+: (us[j].vs.drop 1 ++ [newV [b] 5]).reverse
      rw [List.reverse_append]
      refine (List.prefix_cons_inj _).2 ?_
      have e2 : (us[j].vs.drop 1).reverse = us[j].vs.reverse.take 7 := by rw [List.reverse_drop, hl8]
      rw [e2]
      refine List.prefix_take_iff.2 ⟨h7, ?_⟩
      rw [List.length_map, List.length_take]; omega
theorem past_stale {us : List Entry} {s : ByteArray} {last : Int} {hs : List UInt8} (h : PastI us s last hs) (hl : 0 ≤ last) : putK us s [] (last + 1) 5 = (us, 5, 0) := by
  obtain ⟨h1, h2, j, hj, he, hla, -⟩ := h
  exact put_stale h1 h2 hj he (by simp) (by decide) (by rw [hla]; omega)
/-- Eight or more puts: what is found then. -/
theorem past_get {us : List Entry} {s : ByteArray} {last : Int} {hs : List UInt8} (h : PastI us s last hs) (h8 : 8 ≤ hs.length) (hl : 20 ≤ last + 10) (t : Nat) :
    (∀ ht : t < 8, getF us s (last - (t : Int)) = ⟨[hs[t]'(by omega)], 0, last - (t : Int)⟩) ∧ (8 ≤ t → (0 : Int) < last - (t : Int) → getF us s (last - (t : Int)) = ⟨[], 2, 0⟩) := by
  obtain ⟨h1, h2, j, hj, he, hla, hp⟩ := h
  obtain ⟨-, hf, hv1, hv8, -⟩ := (ok_entry h1).2 us[j] (List.getElem_mem hj)
  have hlen : ((hs.take 8).map (fun b => newV [b] 5)).length = 8 := by rw [List.length_map, List.length_take]; omega
  have hpl := hp.length_le
  rw [hlen, List.length_reverse] at hpl
  have hv : us[j].vs.length = 8 := by omega
  have heq : (hs.take 8).map (fun b => newV [b] 5) = us[j].vs.reverse := hp.eq_of_length (by rw [hlen, List.length_reverse, hv])
  have hfl : us[j].first = last - 7 := by unfold lastE at hla; rw [hv] at hla; omega
  have hg : ∀ n : Int, getF us s n = getE us[j] n := fun n => by rw [getF, if_pos h1, ix_at h1 hj he, if_pos (by omega), Int.toNat_natCast, List.getElem?_eq_getElem hj]; rfl
  refine ⟨fun ht => ?_, fun ht h0 => ?_⟩
  · have hn0 : ¬ last - (t : Int) = 0 := by omega
    have hin : inR (last - (t : Int)) us[j].first (us[j].first + (us[j].vs.length : Int) - 1) = true := inR_true.2 ⟨by omega, by rw [hv]; omega⟩
    have hix : (last - (t : Int) - us[j].first).toNat = 7 - t := by rw [hfl]; omega
    have hve : us[j].vs[7 - t]? = some (newV [hs[t]'(by omega)] 5) := by
      have h9 : us[j].vs.reverse[t]? = some (newV [hs[t]'(by omega)] 5) := by
        rw [← heq, List.getElem?_map, List.getElem?_take_of_lt ht, List.getElem?_eq_getElem (by omega)]; rfl
      rw [List.getElem?_reverse (by rw [hv]; exact ht), hv] at h9
      have e3 : 8 - 1 - t = 7 - t := by omega
      rw [e3] at h9; exact h9
    rw [hg, getE, if_neg hn0, if_pos hin, hix, hve]; rfl
  · have hn0 : ¬ last - (t : Int) = 0 := by omega
    have hin : ¬ inR (last - (t : Int)) us[j].first (us[j].first + (us[j].vs.length : Int) - 1) = true := by
      intro h; have := (inR_true.1 h).1; omega
    rw [hg, getE, if_neg hn0, if_neg hin]
end Go.Proofs.YteimapjiidekoaaDoor
namespace Go.Proofs.YteimapjiidekoaaDoor
open Go.RowKit
set_option linter.unusedVariables false
theorem past_start {us : List Entry} {s : ByteArray} {n : Int} (h : (putK us s [] (-1) 5).2 = (0, n)) (hn : n ≤ 900000) :
    (2 ≤ n ∧ PastI us s (n - 1) []) ∨ (n = 1 ∧ ∀ b : UInt8, putK us s [b] 0 5 = ((putK us s [b] 0 5).1, 0, 1) ∧ PastI (putK us s [b] 0 5).1 s 1 [b] ∧ putK us s [] 1 5 = (us, 5, 0)) := by
  have hv : (storeOk us && (pathF s && (decide (([] : List UInt8).length ≤ 300) && inR 5 0 1000000000))) = true := by
    cases h9 : (storeOk us && (pathF s && (decide (([] : List UInt8).length ≤ 300) && inR 5 0 1000000000))) with
    | true => rfl
    | false =>
      rw [putK, if_neg (by rw [h9]; decide)] at h
      have := congrArg Prod.fst h; simp at this
  have h1 : storeOk us = true := by cases h9 : storeOk us with | true => rfl | false => rw [h9] at hv; simp at hv
  have h2 : pathF s = true := by cases h9 : pathF s with | true => rfl | false => rw [h9] at hv; simp at hv
  rcases ixP_spec (hasP s) us 0 with ⟨hx, hall⟩ | ⟨i, hi, hx, hhit, -⟩
  · right
    have hcu : curK us s = 0 := by rw [curK, hx, if_neg (by omega)]
    have hio : ∀ v : Ver, verOk v = true → storeOk (insK us s ⟨s, 1, [v], none, 0⟩) = decide (us.length < 60) := fun v hv => ins_ok h1 h2 hall hv
    rw [putK, if_pos hv, hcu, if_neg (by omega), hx, if_neg (by omega), hio _ (newV_ok (by simp) (by decide))] at h
    have h60 : us.length < 60 := by
      by_cases h9 : us.length < 60
      · exact h9
      · rw [decide_eq_false h9, if_neg (by decide)] at h
        have := congrArg Prod.fst h; simp at this
    rw [decide_eq_true h60, if_pos rfl] at h
    have hn1 : n = 1 := (congrArg Prod.snd h).symm
    refine ⟨hn1, fun b => ?_⟩
    have hvb : (storeOk us && (pathF s && (decide (([b] : List UInt8).length ≤ 300) && inR 5 0 1000000000))) = true := by rw [h1, h2]; rfl
    have e1 : putK us s [b] 0 5 = (insK us s ⟨s, 1, [newV [b] 5], none, 0⟩, 0, 1) := by
      rw [putK, if_pos hvb, hcu, if_neg (by omega), hx, if_neg (by omega), hio _ (newV_ok (by simp) (by decide)), decide_eq_true h60, if_pos rfl]
    have e2 : putK us s [] 1 5 = (us, 5, 0) := by
      rw [putK, if_pos hv, hcu, if_pos (by omega)]
    rw [e1]
    refine ⟨rfl, ⟨?_, h2, ?_⟩, e2⟩
    · show storeOk (insK us s ⟨s, 1, [newV [b] 5], none, 0⟩) = true
      rw [hio _ (newV_ok (by simp) (by decide))]; exact decide_eq_true h60
    · obtain ⟨p1, -, -⟩ := insE_pos (store_rises h1) hall
      have hlen : (insK us s ⟨s, 1, [newV [b] 5], none, 0⟩).length = us.length + 1 := insAt_len p1
      have hg : (insK us s ⟨s, 1, [newV [b] 5], none, 0⟩)[bsAt (cfE s) us]? = some ⟨s, 1, [newV [b] 5], none, 0⟩ := by
        unfold insK
        rw [ins_get p1, if_neg (by omega), if_pos rfl]
      obtain ⟨hj, hge⟩ := List.getElem?_eq_some_iff.1 hg
      refine ⟨bsAt (cfE s) us, hj, ?_, ?_, ?_⟩
      · rw [hge]
      · rw [hge]; rfl
      · rw [hge]; exact List.prefix_refl _
  · left
    rw [Nat.zero_add] at hx
    have he : us[i].path = s := eqB_iff.1 hhit
    obtain ⟨-, hf, hv1, hv8, -⟩ := (ok_entry h1).2 us[i] (List.getElem_mem hi)
    have hcu := cur_at h1 hi he
    rw [putK, if_pos hv, hcu, if_neg (by omega), hx, if_pos (by omega)] at h
    have hn1 : n = lastE us[i] + 1 := by
      by_cases h9 : storeOk (us.modify ((i : Int)).toNat (pushE (newV [] 5))) = true
      · rw [if_pos h9] at h; exact (congrArg Prod.snd h).symm
      · rw [if_neg h9] at h
        have := congrArg Prod.fst h; simp at this
    refine ⟨by rw [hn1]; unfold lastE; omega, h1, h2, i, hi, he, by rw [hn1]; omega, ?_⟩
    exact List.nil_prefix
def pastN (us : List Entry) (s : ByteArray) (n : Int) : Nat → List Entry
  | 0 => us
  | i + 1 => (putK (pastN us s n i) s [UInt8.ofNat i] (n + (i : Int) - 1) 5).1
def pastH : Nat → List UInt8
  | 0 => []
  | i + 1 => UInt8.ofNat i :: pastH i
theorem pastH_len : ∀ i, (pastH i).length = i
  | 0 => rfl
  | i + 1 => by rw [pastH, List.length_cons, pastH_len]
theorem past_seq {us : List Entry} {s : ByteArray} {n : Int} (h : (putK us s [] (-1) 5).2 = (0, n)) (hn : n ≤ 900000) : ∀ i : Nat, i < 10 →
    (putK (pastN us s n i) s [UInt8.ofNat i] (n + (i : Int) - 1) 5 = (pastN us s n (i + 1), 0, n + (i : Int)) ∧ putK (pastN us s n i) s [] (n + (i : Int)) 5 = (pastN us s n i, 5, 0)) ∧ PastI (pastN us s n (i + 1)) s (n + (i : Int)) (pastH (i + 1)) := by
  have go : ∀ (i : Nat), i < 10 → 1 ≤ n → PastI (pastN us s n i) s (n - 1 + (i : Int)) (pastH i) →
      (putK (pastN us s n i) s [UInt8.ofNat i] (n + (i : Int) - 1) 5 = (pastN us s n (i + 1), 0, n + (i : Int)) ∧ putK (pastN us s n i) s [] (n + (i : Int)) 5 = (pastN us s n i, 5, 0)) ∧ PastI (pastN us s n (i + 1)) s (n + (i : Int)) (pastH (i + 1)) := by
    intro i hi h1 hp
    have e1 : n - 1 + (i : Int) = n + (i : Int) - 1 := by omega
    have e2 : n + (i : Int) - 1 + 1 = n + (i : Int) := by omega
    rw [e1] at hp
    obtain ⟨a1, a2⟩ := past_push hp (by omega) (UInt8.ofNat i)
    have a3 := past_stale hp (by omega)
    rw [e2] at a1 a2 a3
    exact ⟨⟨a1, a3⟩, a2⟩
  intro i
  rcases past_start h hn with ⟨h2, hp⟩ | ⟨rfl, hb⟩
  · induction i with
    | zero =>
      intro h0
      exact go 0 h0 (by omega) (by have e : n - 1 + ((0 : Nat) : Int) = n - 1 := by omega
                                   rw [e]; exact hp)
    | succ i ih =>
      intro hi
      have := (ih (by omega)).2
      refine go (i + 1) hi (by omega) ?_
      have e : n - 1 + ((i + 1 : Nat) : Int) = n + (i : Int) := by omega
      rw [e]; exact this
  · induction i with
    | zero =>
      intro h0
      obtain ⟨b1, b2, b3⟩ := hb (UInt8.ofNat 0)
      exact ⟨⟨b1, b3⟩, b2⟩
    | succ i ih =>
      intro hi
      have := (ih (by omega)).2
      refine go (i + 1) hi (by omega) ?_
      have e : (1 : Int) - 1 + ((i + 1 : Nat) : Int) = 1 + (i : Int) := by omega
      rw [e]; exact this
theorem past_found {us : List Entry} {s : ByteArray} {n : Int} (h : (putK us s [] (-1) 5).2 = (0, n)) (hn : n ≤ 900000) (i : Nat) (hi : i < 10) :
    getF (pastN us s n 10) s (n + (i : Int)) = if i < 2 then ⟨[], 2, 0⟩ else ⟨[UInt8.ofNat i], 0, n + (i : Int)⟩ := by
  have hn1 : 1 ≤ n := by
    rcases past_start h hn with ⟨h2, -⟩ | ⟨rfl, -⟩ <;> omega
  have hp := (past_seq h hn 9 (by omega)).2
  have e9 : n + ((9 : Nat) : Int) = n + 9 := by omega
  rw [e9] at hp
  have hg := past_get hp (by rw [pastH_len]; omega) (by omega) (9 - i)
  have et : n + 9 - ((9 - i : Nat) : Int) = n + (i : Int) := by omega
  rw [et] at hg
  by_cases h2 : i < 2
  · rw [if_pos h2]
    exact hg.2 (by omega) (by omega)
  · rw [if_neg h2, hg.1 (by omega)]
    have hh : ∀ t, (ht : t < 10) → (pastH 10)[t]'(by rw [pastH_len]; exact ht) = UInt8.ofNat (9 - t) := by decide
    have := hh (9 - i) (by omega)
    have e3 : 9 - (9 - i) = i := by omega
    rw [e3] at this
    rw [this]
end Go.Proofs.YteimapjiidekoaaDoor
namespace Go.Proofs.YteimapjiidekoaaDoor
open Go.RowKit
set_option linter.unusedVariables false
set_option linter.unusedSimpArgs false
theorem bigK_any (A : Option Addr) (n c : Nat) (w : World) (hm : n ≤ maxLen) :
    Calls Tryd.prog 25 #[.slice A n c] w fun e w' => e = .returned (.bool (decide (1048576 < n))) ∧ w = w' := by
  unfold maxLen at hm
  by_cases h : 1048576 < n
  · go_enter Tryd.func25, Tryd.ntmps25
    go_wp2
    go_ret
    exact ⟨by simp; omega, rfl⟩
  · go_enter Tryd.func25, Tryd.ntmps25
    go_wp2
    go_ret
    exact ⟨by simp; omega, rfl⟩
/-- Bounds that the contracts want. -/
def Fit3 (us : List Entry) : Prop := (∀ u ∈ us, u.path.size ≤ maxLen) ∧ (∀ u ∈ us, u.vs.length ≤ 1048576) ∧ (∀ u ∈ us, ∀ v ∈ u.vs, v.data.length ≤ 1048576) ∧ us.length ≤ 1048576
theorem fit_ok {us : List Entry} (h : storeOk us = true) : Fit3 us := by
  obtain ⟨h1, h2⟩ := ok_entry h
  refine ⟨fun u hu => ?_, fun u hu => ?_, fun u hu v hv => ?_, by omega⟩
  · have := (h2 u hu).1; unfold maxLen; omega
  · have := (h2 u hu).2.2.2.1; omega
  · have h9 := List.all_eq_true.1 (h2 u hu).2.2.2.2 v hv
    simp only [verOk, Bool.and_eq_true, decide_eq_true_eq] at h9
    omega
theorem fit_d {us : List Entry} (h : StoD us) : Fit3 us := by
  refine ⟨fun u hu => ?_, fun u hu => ?_, fun u hu v hv => ?_, by have := h.1; omega⟩
  · have := (h.2 u hu).1; unfold maxLen; omega
  · have := (h.2 u hu).2.1; omega
  · have := (h.2 u hu).2.2 v hv; omega
theorem fit_pl {us vs : List Entry} (h : vs.map plE = us.map plE) (hf : Fit3 us) : Fit3 vs := by
  have h1 := ok_copy h hf.1 hf.2.1 hf.2.2.1
  have hl : vs.length = us.length := by have := congrArg List.length h; simpa using this
  exact ⟨h1.1, h1.2.1, h1.2.2, by rw [hl]; exact hf.2.2.2⟩
theorem Hp.nilRd {w : World} : Rd w w.heap.size 1 none 0 0 (([] : List UInt8).flatMap encByte) := ⟨rfl, Nat.le_refl _, Nat.zero_le _, fun h => absurd h (Nat.lt_irrefl _)⟩
theorem wk_sto {w : World} {A : Option Addr} {c n : Nat} {es : List Entry} {L : List Ent} : Wk w (stoE A c n es :: L) (stoX A c n es :: L) := by
  have hw : Wk w (stoR A c n es) (stoXR A c n es) := Wk.cons (fun _ h => h) (fun h => h) (wk_ent es)
  refine Wk.cons (fun b hb => ?_) (fun hp => ?_) (Wk.refl L)
  · obtain ⟨e', he, hs⟩ := (hb : ∃ e ∈ stoXR A c n es, e.S b)
    obtain ⟨e, h1, h2, -⟩ := hw.mem e' he
    exact (⟨e, h1, h2 b hs⟩ : ∃ e ∈ stoR A c n es, e.S b)
  · have hp2 : (∀ e ∈ stoR A c n es, e.P w) ∧ (stoR A c n es).Pairwise apart := hp
    refine (⟨fun e' he => ?_, hw.pair hp2.2⟩ : (∀ e ∈ stoXR A c n es, e.P w) ∧ (stoXR A c n es).Pairwise apart)
    obtain ⟨e, h1, -, h3⟩ := hw.mem e' he
    exact h3 (hp2.1 e h1)
set_option maxHeartbeats 32000000 in
set_option maxRecDepth 10000 in
theorem lawPast (A : Option Addr) (n c : Nat) (bs : List UInt8) (w : World) (hr : Rd w w.heap.size 1 A n c (bs.flatMap encByte)) (hn : bs.length = n) (hml : mlOk w) :
    Calls Tryd.prog 6 #[.slice A n c] w fun e w' => e = .returned (.bool true) ∧ Below w.heap.size w w' := by
  have H := Hp.nil w
  have hnm : n ≤ maxLen := Nat.le_trans hr.2.1 hr.2.2.1
  by_cases hbig : 1048576 < n
  · go_enter Tryd.func6, Tryd.ntmps6
    go_wp2_with fail
    refine (bigK_any A n c _ hnm).mono ?_
    rintro e w0 ⟨rfl, rfl⟩
    rw [decide_eq_true hbig]
    go_wp2_with fail
    go_ret
    exact ⟨rfl, Hp.b (by repeat (first | (with_reducible exact H) | (with_reducible apply Hp.alloc) | (with_reducible apply Hp.set) | (with_reducible apply Hp.drew) | (with_reducible apply Hp.drewN) | (with_reducible apply Hp.bytesW) | (with_reducible exact Upd.here) | (with_reducible exact Upd.hereR) | (with_reducible apply Upd.there) | (with_reducible apply Sz.alloc) | (with_reducible apply Sz.set) | (with_reducible apply Sz.drew) | (with_reducible apply Sz.drewN) | (with_reducible apply Sz.bytesW) | (with_reducible assumption) | (with_reducible exact Sz.base _)))⟩
  go_enter Tryd.func6, Tryd.ntmps6
  go_wp2_with fail
  refine (bigK_any A n c _ hnm).mono ?_
  rintro e w0 ⟨rfl, rfl⟩
  rw [decide_eq_false hbig]
  go_wp2_with fail
  refine (DrawDropKv_hp A n c bs _ (hr.grow (Hp.b (by repeat (first | (with_reducible exact H) | (with_reducible apply Hp.alloc) | (with_reducible apply Hp.set) | (with_reducible apply Hp.drew) | (with_reducible apply Hp.drewN) | (with_reducible apply Hp.bytesW) | (with_reducible exact Upd.here) | (with_reducible exact Upd.hereR) | (with_reducible apply Upd.there) | (with_reducible apply Sz.alloc) | (with_reducible apply Sz.set) | (with_reducible apply Sz.drew) | (with_reducible apply Sz.drewN) | (with_reducible apply Sz.bytesW) | (with_reducible assumption) | (with_reducible exact Sz.base _))))) hn).mono ?_
  rintro e w1 ⟨A1, c1, us, s, rfl, hS, hs9, h1⟩
  replace H := Hp.call (by repeat (first | (with_reducible exact H) | (with_reducible apply Hp.alloc) | (with_reducible apply Hp.set) | (with_reducible apply Hp.drew) | (with_reducible apply Hp.drewN) | (with_reducible apply Hp.bytesW) | (with_reducible exact Upd.here) | (with_reducible exact Upd.hereR) | (with_reducible apply Upd.there) | (with_reducible apply Sz.alloc) | (with_reducible apply Sz.set) | (with_reducible apply Sz.drew) | (with_reducible apply Sz.drewN) | (with_reducible apply Sz.bytesW) | (with_reducible assumption) | (with_reducible exact Sz.base _))) h1; (try simp only [List.set_cons_zero, List.set_cons_succ, List.cons_append, List.nil_append] at H); clear h1; (try clear F); have F := H.facts; simp only [Facts, NeF, box, row, reg, cellsF, rByte, ne_eq, true_and, and_true, Nat.reduceAdd, Nat.zero_add] at F
  have hf0 := fit_d hS
  have HF0 := Lib.hid hf0
  have hsm : s.size ≤ maxLen := by unfold maxLen; omega
  clear hS hs9 hbig
  obtain ⟨rs, rc, rm, hrs⟩ : ∃ rs rc rm, putK us s [] (-1) 5 = (rs, rc, rm) := ⟨_, _, _, rfl⟩
  go_wp2_with fail
  refine call_at (w0 := w) (by repeat (first | (with_reducible exact H) | (with_reducible apply Hp.alloc) | (with_reducible apply Hp.set) | (with_reducible apply Hp.drew) | (with_reducible apply Hp.drewN) | (with_reducible apply Hp.bytesW) | (with_reducible exact Upd.here) | (with_reducible exact Upd.hereR) | (with_reducible apply Upd.there) | (with_reducible apply Sz.alloc) | (with_reducible apply Sz.set) | (with_reducible apply Sz.drew) | (with_reducible apply Sz.drewN) | (with_reducible apply Sz.bytesW) | (with_reducible assumption) | (with_reducible exact Sz.base _))) fun H7 => ?_
  (try simp only [List.set_cons_zero, List.set_cons_succ, List.cons_append, List.nil_append] at H7)
  refine (specPutKv_pl A1 us.length c1 us s none 0 0 [] (-1) 5 rs rc rm _ (by rw [hrs]; exact ⟨rfl, rfl⟩) (stoE_rd H7 (by repeat (first | (with_reducible exact List.mem_cons_self) | (with_reducible apply List.mem_cons_of_mem)))).1 rfl hf0.2.2.2 hf0.1 (stoE_rd H7 (A := A1) (c := c1) (n := us.length) (es := us) (by repeat (first | (with_reducible exact List.mem_cons_self) | (with_reducible apply List.mem_cons_of_mem)))).2 hf0.2.1 hf0.2.2.1 Hp.nilRd rfl (Nat.zero_le _) hsm).mono ?_
  rintro e w2 ⟨A2, c2, vs2, rfl, hp2, hl2, h2⟩
  clear H F
  have H := Hp.call H7 h2
  clear h2 hp2 H7
  (try simp only [List.set_cons_zero, List.set_cons_succ, List.cons_append, List.nil_append] at H)
  have F := H.facts; simp only [Facts, NeF, box, row, reg, cellsF, rByte, ne_eq, true_and, and_true, Nat.reduceAdd, Nat.zero_add] at F
  by_cases hrc : rc = 0
  · subst hrc
    by_cases hrm : 900000 < rm
    · go_wp2_with fail
      go_ret
      exact ⟨rfl, Hp.b (by repeat (first | (with_reducible exact H) | (with_reducible apply Hp.alloc) | (with_reducible apply Hp.set) | (with_reducible apply Hp.drew) | (with_reducible apply Hp.drewN) | (with_reducible apply Hp.bytesW) | (with_reducible exact Upd.here) | (with_reducible exact Upd.hereR) | (with_reducible apply Upd.there) | (with_reducible apply Sz.alloc) | (with_reducible apply Sz.set) | (with_reducible apply Sz.drew) | (with_reducible apply Sz.drewN) | (with_reducible apply Sz.bytesW) | (with_reducible assumption) | (with_reducible exact Sz.base _)))⟩
    · have hrm9 : rm ≤ 900000 := by omega
      have hst : (putK us s [] (-1) 5).2 = (0, rm) := by rw [hrs]
      have HSQ := Lib.hid (past_seq hst hrm9)
      have HFD := Lib.hid (past_found hst hrm9)
      have hrm1 : 1 ≤ rm := by rcases past_start hst hrm9 with ⟨h2, -⟩ | ⟨rfl, -⟩ <;> omega
      have HFT : Hid (∀ i : Nat, i ≤ 10 → Fit3 (pastN us s rm i)) := fun i hi => by
        cases i with
        | zero => exact HF0.out
        | succ i => exact fit_ok (HSQ.out i (by omega)).2.ok
      clear hst hf0
      go_wp2_with fail
      have HH := Lib.hid H; clear H F
      go_loopw [8, 9, 10, 11, 12, 13, 14] (fun i s9 s10 s11 s12 s13 s14 wr => ∃ k : Nat, k ≤ 10 ∧ i = .int .i64 k ∧ ∃ (B : Option Addr) (d : Nat) (es : List Entry), Hid (es.map plE = (pastN us s rm k).map plE) ∧ Hid (Hp w wr [box w1.heap.size 29 [.slice B es.length d], stoX B d es.length es])) (fun i _ _ _ _ _ _ _ => 10 - (intOf i).toNat)
      case atStart =>
        have H := HH.out
        refine ⟨0, Nat.zero_le _, rfl, A1, c1, us, by show _ = _; rfl, Lib.hid (Hp.into (by repeat (first | (with_reducible exact H) | (with_reducible apply Hp.alloc) | (with_reducible apply Hp.set) | (with_reducible apply Hp.drew) | (with_reducible apply Hp.drewN) | (with_reducible apply Hp.bytesW) | (with_reducible exact Upd.here) | (with_reducible exact Upd.hereR) | (with_reducible apply Upd.there) | (with_reducible apply Sz.alloc) | (with_reducible apply Sz.set) | (with_reducible apply Sz.drew) | (with_reducible apply Sz.drewN) | (with_reducible apply Sz.bytesW) | (with_reducible assumption) | (with_reducible exact Sz.base _))) fun H1 => ?_)⟩
        (try simp only [List.set_cons_zero, List.set_cons_succ, List.cons_append, List.nil_append] at H1)
        have H2 : Hp w _ [stoE A1 c1 us.length us, box w1.heap.size 29 [.slice A1 us.length c1]] := Hp.sel H1 (by (try simp only [List.cons_append, List.nil_append, List.set_cons_zero, List.set_cons_succ]); (repeat (first | (with_reducible exact Sel.nil) | (with_reducible apply Sel.cons) | (with_reducible exact Del.here) | (with_reducible apply Del.there))))
        exact (H2.weak wk_sto).sel (by (try simp only [List.cons_append, List.nil_append, List.set_cons_zero, List.set_cons_succ]); (repeat (first | (with_reducible exact Sel.nil) | (with_reducible apply Sel.cons) | (with_reducible exact Del.here) | (with_reducible apply Del.there))))
      case round =>
        clear HH
        obtain ⟨k, hk, rfl, B, d, es, HE, HP⟩ := hrel
        have H := HP.out
        have F := H.facts; simp only [Facts, NeF, box, row, reg, cellsF, rByte, ne_eq, true_and, and_true, Nat.reduceAdd, Nat.zero_add] at F
        by_cases hlt : k < 10
        · have hk1 : (k : Int) < 10 := by omega
          have HK1 : Hid (k + 1 ≤ 10 ∧ 10 - (k + 1) < 10 - k) := ⟨by omega, by omega⟩
          obtain ⟨hsq1, hsq2⟩ := (HSQ.out k hlt).1
          have hf := fit_pl HE.out (HFT.out k (by omega))
          have hpl1 := putK_pl s [UInt8.ofNat k] (rm + (k : Int) - 1) 5 HE.out
          have hpl2 := putK_pl s [] (rm + (k : Int)) 5 HE.out
          rw [hsq1] at hpl1
          rw [hsq2] at hpl2
          have HPL1 := Lib.hid hpl1
          have HPL2 := Lib.hid hpl2
          have HFE := Lib.hid hf
          have hbm := byte_mark k
          obtain ⟨u4, hu4⟩ : ∃ u, u = UInt8.ofNat k := ⟨_, rfl⟩
          rw [← hu4] at hbm HPL1
          have hw1 : IntKind.i64.wrap (rm + (k : Int)) = rm + (k : Int) := by rw [IntKind.wrap_i64]; omega
          have hw2 : IntKind.i64.wrap (rm + (k : Int) - 1) = rm + (k : Int) - 1 := by rw [IntKind.wrap_i64]; omega
          clear hu4 hsq1 hsq2 hpl1 hpl2 hf
          go_wp2_with fail
          refine call_at (w0 := w) (by repeat (first | (with_reducible exact H) | (with_reducible apply Hp.alloc) | (with_reducible apply Hp.set) | (with_reducible apply Hp.drew) | (with_reducible apply Hp.drewN) | (with_reducible apply Hp.bytesW) | (with_reducible exact Upd.here) | (with_reducible exact Upd.hereR) | (with_reducible apply Upd.there) | (with_reducible apply Sz.alloc) | (with_reducible apply Sz.set) | (with_reducible apply Sz.drew) | (with_reducible apply Sz.drewN) | (with_reducible apply Sz.bytesW) | (with_reducible assumption) | (with_reducible exact Sz.base _))) fun H7 => ?_
          (try simp only [List.set_cons_zero, List.set_cons_succ, List.cons_append, List.nil_append] at H7)
          have H8 := Hp.boxRow H7 0 1 1 1 (by rfl) (by rfl) (Nat.le_refl _) (by unfold maxLen; omega)
          refine (implPutKv_pl B es.length d es s (some ⟨wr.heap.size, 0, none⟩) 1 1 [u4] (rm + (k : Int) - 1) 5 (pastN us s rm (k + 1)) 0 (rm + (k : Int)) _ HPL1.out (stoX_rd H7 (A := B) (c := d) (n := es.length) (es := es) (by repeat (first | (with_reducible exact List.mem_cons_self) | (with_reducible apply List.mem_cons_of_mem)))).1 rfl HFE.out.2.2.2 HFE.out.1 (stoX_rd H7 (A := B) (c := d) (n := es.length) (es := es) (by repeat (first | (with_reducible exact List.mem_cons_self) | (with_reducible apply List.mem_cons_of_mem)))).2 HFE.out.2.1 HFE.out.2.2.1 (H8.rd 0 (by rfl)) rfl (by omega) hsm (hml.on H7.b)).mono ?_
          rintro e w3 ⟨B3, d3, vs3, rfl, hp3, hl3, h3⟩
          clear H F H8
          have H := Hp.call H7 h3
          have HP3 := Lib.hid hp3
          have HL3 := Lib.hid hl3
          clear h3 hp3 hl3 H7
          (try simp only [List.set_cons_zero, List.set_cons_succ, List.cons_append, List.nil_append] at H)
          have F := H.facts; simp only [Facts, NeF, box, row, reg, cellsF, rByte, ne_eq, true_and, and_true, Nat.reduceAdd, Nat.zero_add] at F
          go_wp2_with fail
          refine call_at (w0 := w) (by repeat (first | (with_reducible exact H) | (with_reducible apply Hp.alloc) | (with_reducible apply Hp.set) | (with_reducible apply Hp.drew) | (with_reducible apply Hp.drewN) | (with_reducible apply Hp.bytesW) | (with_reducible exact Upd.here) | (with_reducible exact Upd.hereR) | (with_reducible apply Upd.there) | (with_reducible apply Sz.alloc) | (with_reducible apply Sz.set) | (with_reducible apply Sz.drew) | (with_reducible apply Sz.drewN) | (with_reducible apply Sz.bytesW) | (with_reducible assumption) | (with_reducible exact Sz.base _))) fun H7 => ?_
          (try simp only [List.set_cons_zero, List.set_cons_succ, List.cons_append, List.nil_append] at H7)
          refine (implPutKv_pl B es.length d es s none 0 0 [] (rm + (k : Int)) 5 (pastN us s rm k) 5 0 _ HPL2.out (stoX_rd H7 (A := B) (c := d) (n := es.length) (es := es) (by repeat (first | (with_reducible exact List.mem_cons_self) | (with_reducible apply List.mem_cons_of_mem)))).1 rfl HFE.out.2.2.2 HFE.out.1 (stoX_rd H7 (A := B) (c := d) (n := es.length) (es := es) (by repeat (first | (with_reducible exact List.mem_cons_self) | (with_reducible apply List.mem_cons_of_mem)))).2 HFE.out.2.1 HFE.out.2.2.1 Hp.nilRd rfl (Nat.zero_le _) hsm (hml.on H7.b)).mono ?_
          rintro e w4 ⟨B4, d4, vs4, rfl, hp4, hl4, h4⟩
          clear H F
          have H := Hp.call H7 h4
          clear h4 hp4 hl4 H7
          (try simp only [List.set_cons_zero, List.set_cons_succ, List.cons_append, List.nil_append] at H)
          have F := H.facts; simp only [Facts, NeF, box, row, reg, cellsF, rByte, ne_eq, true_and, and_true, Nat.reduceAdd, Nat.zero_add] at F
          go_wp2_with fail
          go_roundw
          case rel =>
            refine ⟨k + 1, HK1.out.1, by go_num, B3, d3, vs3, HP3.out, Lib.hid ?_⟩
            rw [HL3.out]
            refine Hp.sel (by repeat (first | (with_reducible exact H) | (with_reducible apply Hp.alloc) | (with_reducible apply Hp.set) | (with_reducible apply Hp.drew) | (with_reducible apply Hp.drewN) | (with_reducible apply Hp.bytesW) | (with_reducible exact Upd.here) | (with_reducible exact Upd.hereR) | (with_reducible apply Upd.there) | (with_reducible apply Sz.alloc) | (with_reducible apply Sz.set) | (with_reducible apply Sz.drew) | (with_reducible apply Sz.drewN) | (with_reducible apply Sz.bytesW) | (with_reducible assumption) | (with_reducible exact Sz.base _))) ?_
            (try simp only [List.cons_append, List.nil_append, List.set_cons_zero, List.set_cons_succ]); (repeat (first | (with_reducible exact Sel.nil) | (with_reducible apply Sel.cons) | (with_reducible exact Del.here) | (with_reducible apply Del.there)))
          case measure => have := HK1.out.2; simp [intOf]; omega
        · have hk1 : ¬ (k : Int) < 10 := by omega
          obtain rfl : k = 10 := by omega
          have hf := fit_pl HE.out (HFT.out 10 (by omega))
          have HFE := Lib.hid hf; clear hf hlt
          go_wp2_with fail
          have HH := Lib.hid H; clear H F
          go_loopw [15, 16, 17, 18] (fun i s16 s17 s18 wr => ∃ k : Nat, k ≤ 10 ∧ i = .int .i64 k ∧ Hid (Hp w wr [box w1.heap.size 29 [.slice B es.length d], stoX B d es.length es])) (fun i _ _ _ _ => 10 - (intOf i).toNat)
          case atStart =>
            have H := HH.out
            exact ⟨0, Nat.zero_le _, rfl, Lib.hid (by repeat (first | (with_reducible exact H) | (with_reducible apply Hp.alloc) | (with_reducible apply Hp.set) | (with_reducible apply Hp.drew) | (with_reducible apply Hp.drewN) | (with_reducible apply Hp.bytesW) | (with_reducible exact Upd.here) | (with_reducible exact Upd.hereR) | (with_reducible apply Upd.there) | (with_reducible apply Sz.alloc) | (with_reducible apply Sz.set) | (with_reducible apply Sz.drew) | (with_reducible apply Sz.drewN) | (with_reducible apply Sz.bytesW) | (with_reducible assumption) | (with_reducible exact Sz.base _)))⟩
          case round =>
            clear HH
            obtain ⟨k, hk, rfl, HP⟩ := hrel
            have H := HP.out
            have F := H.facts; simp only [Facts, NeF, box, row, reg, cellsF, rByte, ne_eq, true_and, and_true, Nat.reduceAdd, Nat.zero_add] at F
            by_cases hlt : k < 10
            · have hk1 : (k : Int) < 10 := by omega
              have HK1 : Hid (k + 1 ≤ 10 ∧ 10 - (k + 1) < 10 - k) := ⟨by omega, by omega⟩
              have hw1 : IntKind.i64.wrap (rm + (k : Int)) = rm + (k : Int) := by rw [IntKind.wrap_i64]; omega
              have hg := HFD.out k hlt
              rw [← getF_pl s (rm + (k : Int)) HE.out] at hg
              go_wp2_with fail
              refine (implGetKv_hp B es.length d es s (rm + (k : Int)) _ _ rfl (stoX_rd H (A := B) (c := d) (n := es.length) (es := es) (by repeat (first | (with_reducible exact List.mem_cons_self) | (with_reducible apply List.mem_cons_of_mem)))).1 rfl HFE.out.1 (stoX_rd H (A := B) (c := d) (n := es.length) (es := es) (by repeat (first | (with_reducible exact List.mem_cons_self) | (with_reducible apply List.mem_cons_of_mem)))).2 (hml.on H.b)).mono ?_
              rintro e w5 ⟨B5, d5, rfl, h5⟩
              rw [hg] at h5 ⊢
              clear hg
              by_cases h2 : k < 2
              · rw [if_pos h2] at h5 ⊢
                have h2i : (k : Int) < 2 := by omega
                have h2d : decide ((k : Int) < 2) = true := decide_eq_true h2i
                have h2e : decide ((2 : Int) ≤ (k : Int)) = false := decide_eq_false (by omega)
                replace H := Hp.call (by repeat (first | (with_reducible exact H) | (with_reducible apply Hp.alloc) | (with_reducible apply Hp.set) | (with_reducible apply Hp.drew) | (with_reducible apply Hp.drewN) | (with_reducible apply Hp.bytesW) | (with_reducible exact Upd.here) | (with_reducible exact Upd.hereR) | (with_reducible apply Upd.there) | (with_reducible apply Sz.alloc) | (with_reducible apply Sz.set) | (with_reducible apply Sz.drew) | (with_reducible apply Sz.drewN) | (with_reducible apply Sz.bytesW) | (with_reducible assumption) | (with_reducible exact Sz.base _))) h5; (try simp only [List.set_cons_zero, List.set_cons_succ, List.cons_append, List.nil_append] at H); clear h5 F
                have F := H.facts; simp only [Facts, NeF, box, row, reg, cellsF, rByte, ne_eq, true_and, and_true, Nat.reduceAdd, Nat.zero_add] at F
                go_wp2_with fail
                go_roundw
                case rel => exact ⟨k + 1, HK1.out.1, by go_num, Lib.hid (Hp.sel (by repeat (first | (with_reducible exact H) | (with_reducible apply Hp.alloc) | (with_reducible apply Hp.set) | (with_reducible apply Hp.drew) | (with_reducible apply Hp.drewN) | (with_reducible apply Hp.bytesW) | (with_reducible exact Upd.here) | (with_reducible exact Upd.hereR) | (with_reducible apply Upd.there) | (with_reducible apply Sz.alloc) | (with_reducible apply Sz.set) | (with_reducible apply Sz.drew) | (with_reducible apply Sz.drewN) | (with_reducible apply Sz.bytesW) | (with_reducible assumption) | (with_reducible exact Sz.base _))) (by (try simp only [List.cons_append, List.nil_append, List.set_cons_zero, List.set_cons_succ]); (repeat (first | (with_reducible exact Sel.nil) | (with_reducible apply Sel.cons) | (with_reducible exact Del.here) | (with_reducible apply Del.there)))))⟩
                case measure => have := HK1.out.2; simp [intOf]; omega
              · rw [if_neg h2] at h5 ⊢
                have h2i : ¬ (k : Int) < 2 := by omega
                have h2d : decide ((k : Int) < 2) = false := decide_eq_false h2i
                have h2e : decide ((2 : Int) ≤ (k : Int)) = true := decide_eq_true (by omega)
                replace H := Hp.call (by repeat (first | (with_reducible exact H) | (with_reducible apply Hp.alloc) | (with_reducible apply Hp.set) | (with_reducible apply Hp.drew) | (with_reducible apply Hp.drewN) | (with_reducible apply Hp.bytesW) | (with_reducible exact Upd.here) | (with_reducible exact Upd.hereR) | (with_reducible apply Upd.there) | (with_reducible apply Sz.alloc) | (with_reducible apply Sz.set) | (with_reducible apply Sz.drew) | (with_reducible apply Sz.drewN) | (with_reducible apply Sz.bytesW) | (with_reducible assumption) | (with_reducible exact Sz.base _))) h5; (try simp only [List.set_cons_zero, List.set_cons_succ, List.cons_append, List.nil_append] at H); clear h5 F
                obtain ⟨g5, rfl⟩ := rowGm (H.rowM (t := 5) (k := 1) (v := .slice B5 1 d5) (n := 1) (xs := [UInt8.ofNat k].flatMap encByte) (show rByte B5 d5 [UInt8.ofNat k] ∈ _ from (by repeat (first | (with_reducible exact List.mem_cons_self) | (with_reducible apply List.mem_cons_of_mem))))) (by omega)
                have c9 := own_at (j := 0) (v := .int .u8 (k : Int)) (H.rowM (t := 5) (k := 1) (v := .slice (some ⟨g5, 0, none⟩) 1 d5) (n := 1) (xs := [UInt8.ofNat k].flatMap encByte) (show rByte (some ⟨g5, 0, none⟩) d5 [UInt8.ofNat k] ∈ _ from (by repeat (first | (with_reducible exact List.mem_cons_self) | (with_reducible apply List.mem_cons_of_mem))))) (by
                  have hu : ((UInt8.ofNat k).toNat : Int) = (k : Int) := by rw [UInt8.toNat_ofNat']; omega
                  show some (Value.int .u8 ((UInt8.ofNat k).toNat : Int)) = _
                  rw [hu])
                have F := H.facts; simp only [Facts, NeF, box, row, reg, cellsF, rByte, ne_eq, true_and, and_true, Nat.reduceAdd, Nat.zero_add] at F
                go_wp2_with fail
                go_roundw
                case rel => exact ⟨k + 1, HK1.out.1, by go_num, Lib.hid (Hp.sel (by repeat (first | (with_reducible exact H) | (with_reducible apply Hp.alloc) | (with_reducible apply Hp.set) | (with_reducible apply Hp.drew) | (with_reducible apply Hp.drewN) | (with_reducible apply Hp.bytesW) | (with_reducible exact Upd.here) | (with_reducible exact Upd.hereR) | (with_reducible apply Upd.there) | (with_reducible apply Sz.alloc) | (with_reducible apply Sz.set) | (with_reducible apply Sz.drew) | (with_reducible apply Sz.drewN) | (with_reducible apply Sz.bytesW) | (with_reducible assumption) | (with_reducible exact Sz.base _))) (by (try simp only [List.cons_append, List.nil_append, List.set_cons_zero, List.set_cons_succ]); (repeat (first | (with_reducible exact Sel.nil) | (with_reducible apply Sel.cons) | (with_reducible exact Del.here) | (with_reducible apply Del.there)))))⟩
                case measure => have := HK1.out.2; simp [intOf]; omega
            · have hk1 : ¬ (k : Int) < 10 := by omega
              go_wp2_with fail
              go_ret
              exact ⟨rfl, Hp.b (by repeat (first | (with_reducible exact H) | (with_reducible apply Hp.alloc) | (with_reducible apply Hp.set) | (with_reducible apply Hp.drew) | (with_reducible apply Hp.drewN) | (with_reducible apply Hp.bytesW) | (with_reducible exact Upd.here) | (with_reducible exact Upd.hereR) | (with_reducible apply Upd.there) | (with_reducible apply Sz.alloc) | (with_reducible apply Sz.set) | (with_reducible apply Sz.drew) | (with_reducible apply Sz.drewN) | (with_reducible apply Sz.bytesW) | (with_reducible assumption) | (with_reducible exact Sz.base _)))⟩
  · have hrc1 : (rc != 0) = true := by simp [hrc]
    go_wp2_with fail
    go_ret
    exact ⟨rfl, Hp.b (by repeat (first | (with_reducible exact H) | (with_reducible apply Hp.alloc) | (with_reducible apply Hp.set) | (with_reducible apply Hp.drew) | (with_reducible apply Hp.drewN) | (with_reducible apply Hp.bytesW) | (with_reducible exact Upd.here) | (with_reducible exact Upd.hereR) | (with_reducible apply Upd.there) | (with_reducible apply Sz.alloc) | (with_reducible apply Sz.set) | (with_reducible apply Sz.drew) | (with_reducible apply Sz.drewN) | (with_reducible apply Sz.bytesW) | (with_reducible assumption) | (with_reducible exact Sz.base _)))⟩
end Go.Proofs.YteimapjiidekoaaDoor
namespace Go.Proofs.YteimapjiidekoaaDoor
open Go
variable {H : Type} {enc : TypeId × Value → H}
theorem handed_shaped_and {a : Assume} {C : Checked} {os : Os} {f : FuncId} {fn : Func} {s : ChangeSpec} {conds : List PathCond} {apart fresh handsOn again : Bool} {X : World → Array Value → Prop}
    (hX : ∀ (w w' : World) (args : Array Value), w.heap = w'.heap → X w args → X w' args)
    (own : ownKnob C.prog.godebug = none) (started : os.Started) (noInit : C.prog.inits.idxOf? f = none) (hfn : C.prog.funcs[f]? = some fn)
    (witness : ∃ (w : World) (tape : Tape) (i : Input), w.os = os ∧ (w.forCall tape i).Shaped C.prog ∧ i.vars = [] ∧ Input.okWide C.prog (w.forCall tape i) .any w.heap.size f i ∧
      ((s.pre enc C.prog fn conds apart (w.forCall tape i).memory i.args ∧ X (w.forCall tape i).memory i.args) ∧ sizedMet enc C.prog fn (OpenSpec.ofChange s) apart (w.forCall tape i).memory i.args) ∧ a.holds C.prog (lone (Frame.enter C.prog f i.args .normal) [] (w.forCall tape i)))
    (contract : ∀ (W : World) (base : Nat) (args : Array Value) (ds gs : List (DataW H)) (before : List MemPlace),
      (∀ (j : Nat) t v, fn.params[j]? = some t → args[j]? = some v → Value.okWide C.prog W .any base t v) →
      DataW.Whole enc C.prog fn.params.toList s.vars apart W args.toList ds gs before →
      conds.all (PathCond.test C.prog ⟨fn.params.toList, ds, s.plain.varTypes C.prog, gs⟩) = true →
      (DataW.weightsEach C.prog (fn.params.toList ++ s.plain.varTypes C.prog) (ds ++ gs)).all (· ≤ reachBytes) = true → X W args → W.ShapedOpen C.prog →
      Calls C.prog f args W fun e W' => ∃ v, e = .returned v ∧ s.post enc C.prog fn apart fresh handsOn again W args v W') :
    ReturnsInHanded a C os f .any (fun w args => (s.pre enc C.prog fn conds apart w args ∧ X w args) ∧ sizedMet enc C.prog fn (OpenSpec.ofChange s) apart w args) (s.post enc C.prog fn apart fresh handsOn again) := by
  refine returnsInHanded_of_calls own started noInit witness ?_
  intro w tape i _ hsh _ hok hpre _
  obtain ⟨_, _, _, fn', hfn', _, _, _, _, hval⟩ := hok
  have e : fn' = fn := Option.some.inj (hfn'.symm.trans hfn)
  subst e
  obtain ⟨⟨⟨ds, gs, before, hw, hc⟩, hx⟩, hz⟩ := hpre
  have hw' := DataW.Whole.of_heap (w' := w.forCall tape i) (by rfl) hw
  refine (contract (w.forCall tape i) w.heap.size i.args ds gs before hval hw' hc (hz.weights hw) (hX _ _ _ (by rfl) hx) hsh).mono fun e W' ⟨v, he, hp⟩ => ?_
  subst he
  exact ChangeSpec.post_blind hp
end Go.Proofs.YteimapjiidekoaaDoor
namespace Go.Proofs.YteimapjiidekoaaDoor.rowPast
open Go.Proofs.YteimapjiidekoaaDoor
open Go.ChangeShapes Go.WideShapes Go.ChangeAt Go.RowKit Go.Joins Go.Deep
set_option linter.unusedVariables false

theorem own : ownKnob Tryd.prog.godebug = none := by kernel_rfl
theorem laidOut : laidOutB Tryd.prog = true := by kernel_rfl

set_option maxRecDepth 100000 in
theorem lifted (os : Os) (started : os.Started) (H : Type) (enc : TypeId × Value → H) :
    ReturnsInHanded {} Tryd.checked os 6 .any (fun w args => (Rows.fnPastSpec.pre enc Tryd.prog Tryd.f6 [] false w args ∧ laidMetH Tryd.prog Rows.fnPastRow.laid w) ∧ sizedMet enc Tryd.prog Tryd.f6 (OpenSpec.ofChange Rows.fnPastSpec) false w args)
      (Rows.fnPastSpec.post enc Tryd.prog Tryd.f6 false true false false) := by
  refine handed_shaped_and (C := Tryd.checked) (X := fun w _ => laidMetH Tryd.prog Rows.fnPastRow.laid w) (fun _ _ _ hh h => h.of_heap hh) own started (by kernel_rfl) Tryd.func6
    (ChangeSpec.witness_shaped (enc := enc) (C := Tryd.checked) (os := os) (X := fun w _ => laidMetH Tryd.prog Rows.fnPastRow.laid w) false (World.laidAll Tryd.prog os Rows.fnPastRow.laid) #[.slice none 0 0] 8 (World.laidAll_os _ _ _) (World.shaped_of_ZipB (by kernel_rfl) (by kernel_rfl)) (by kernel_rfl) (by kernel_rfl) (by kernel_rfl) (by rw [MakeChecks.laidMetH_plain _ _ _ (by kernel_rfl)]; exact laidMet_laidAll _ (by kernel_rfl) (by kernel_rfl))) ?_
  intro W base args ds gs before hval0 hW _ _ hL hsh
  have hval : ∀ (j : Nat) t v, Tryd.f6.params[j]? = some t → args[j]? = some v → Value.okWide Tryd.prog W .any base t v := hval0
  have hW' := hW
  obtain ⟨p, q, hA0, hV, rfl, hfz, hnd⟩ := hW
  have hA : DataW.TrodAll enc Tryd.prog W 0 (fun _ => true) true Tryd.f6.params.toList args.toList ds p := hA0
  rw [Tryd.params6] at hA hval
  obtain ⟨v0, vs0, d0, ds0, p0, q0, hargs, rfl, rfl, h0, r0⟩ := trodAll_cons hA
  obtain ⟨rfl, rfl, rfl⟩ := trodAll_nil r0
  obtain rfl : args = #[v0] := by cases args; simp_all
  obtain ⟨rfl, rfl⟩ := trodVars_none hV
  have k0 := h0
  have lt0 : ∀ x ∈ p0, x.block < W.heap.size := by obtain ⟨m, hm⟩ := k0; exact DataW.trod_lt m _ _ _ hm
  obtain ⟨A0, n0, c0, bs0, rfl, hr0, hn0⟩ := open_bytes' (hval 0 39 v0 rfl rfl) h0
  clear hA0 hval0
  have hml : mlOk W := Tryd.laysM146.s1_3 W hsh
  refine (lawPast A0 n0 c0 bs0 W hr0 hn0 hml).mono fun e W' ⟨he, bel⟩ => ?_
  subst he
  exact ⟨_, rfl, _, _, _, [], _, [], hW', trodAll_mk1 (shut_bool Tryd.underlying4 _), (trodAll_cons_mk (Below.trod laidOut (by kernel_rfl) (of_decide_eq_true (by kernel_rfl)) k0 bel lt0) trodAll_mk0), rfl, bel.frame _, fun h => by cases h⟩

theorem over : Rows.fnPastRow.holds Tryd.pinned (OpenSpec.ofChange Rows.fnPastSpec) :=
  OpenClaim.holds_of_wide 6 Tryd.f6 rfl rfl rfl rfl rfl rfl rfl ⟨rfl, rfl, rfl, rfl, rfl⟩ rfl rfl rfl rfl rfl (by kernel_rfl) Tryd.func6 (by kernel_rfl)
    (of_decide_eq_true (by kernel_rfl)) (by unfold Func.isWrapper; first | (rw [if_pos (by decide +kernel)]; kernel_rfl) | (rw [if_neg (by decide +kernel)]; exact ⟨rfl, rfl⟩))
    (fun os started H enc _ => lifted os started H enc)

end Go.Proofs.YteimapjiidekoaaDoor.rowPast

/- Stores: many puts at one path, in plain words. No condition. -/
import Derived.Test.YtklmcbabpncfmaaDoorM4
import Derived.Test.YtklmcbabpncfmaaDoorKvH
import Derived.Test.YtklmcbabpncfmaaDoorM8
import Derived.Deep.DeepCutAuto
namespace Go.Proofs.YtklmcbabpncfmaaDoor
open Go.RowKit
set_option linter.unusedVariables false
theorem ix_at {us : List Entry} (h : storeOk us = true) {s : ByteArray} {j : Nat} (hj : j < us.length) (he : us[j].path = s) : ixP (hasP s) us 0 = (j : Int) := by
  rcases ixP_spec (hasP s) us 0 with ⟨-, hall⟩ | ⟨i, hi, hx, hhit, -⟩
  · have := hall us[j] (List.getElem_mem hj)
    rw [hasP, eqB_iff.2 he] at this; cases this
  · have hij : i = j := (store_rises h).inj (by simpa using hi) (by simpa using hj) (by simp only [List.getElem_map]; rw [eqB_iff.1 hhit, he])
    rw [hx, hij, Nat.zero_add]
theorem cur_at {us : List Entry} (h : storeOk us = true) {s : ByteArray} {j : Nat} (hj : j < us.length) (he : us[j].path = s) : curK us s = lastE us[j] := by
  rw [curK, ix_at h hj he, if_pos (by omega), Int.toNat_natCast, List.getElem?_eq_getElem hj]; rfl
theorem pushE_first (v : Ver) (e : Entry) : (pushE v e).first = if e.vs.length < 8 then e.first else e.first + 1 := by
  unfold pushE; split <;> rfl
theorem pushE_last {v : Ver} {e : Entry} (h1 : 1 ≤ e.vs.length) : lastE (pushE v e) = lastE e + 1 := by
  unfold pushE lastE
  split
  · simp only [List.length_append, List.length_cons, List.length_nil]; omega
  · simp only [List.length_append, List.length_drop, List.length_cons, List.length_nil]; omega
/-- A put at a path that is there, with the right number and with room. -/
theorem put_at {us : List Entry} {s : ByteArray} {j : Nat} {data : List UInt8} {cas now : Int} (h : storeOk us = true) (hs : pathF s = true) (hj : j < us.length) (he : us[j].path = s) (hd : data.length ≤ 300) (hn : inR now 0 1000000000 = true) (hc : cas = lastE us[j] ∨ cas < 0) (hl : lastE us[j] ≤ 999000) :
    putK us s data cas now = (us.set j (pushE (newV data now) us[j]), 0, lastE us[j] + 1) ∧ storeOk (us.set j (pushE (newV data now) us[j])) = true := by
  obtain ⟨-, hf, hv1, hv8, -⟩ := (ok_entry h).2 us[j] (List.getElem_mem hj)
  have hfl : (pushE (newV data now) us[j]).first ≤ 1000000 := by
    rw [pushE_first]
    unfold lastE at hl
    split <;> omega
  have hok : storeOk (us.set j (pushE (newV data now) us[j])) = true := by rw [push_ok h hj (newV_ok hd hn)]; exact decide_eq_true hfl
  refine ⟨?_, hok⟩
  rw [putK, if_pos (by simp [h, hs, hn]; omega), cur_at h hj he, if_neg (by omega), ix_at h hj he, if_pos (by omega), Int.toNat_natCast, modify_set hj, if_pos hok]
theorem put_stale {us : List Entry} {s : ByteArray} {j : Nat} {data : List UInt8} {cas now : Int} (h : storeOk us = true) (hs : pathF s = true) (hj : j < us.length) (he : us[j].path = s) (hd : data.length ≤ 300) (hn : inR now 0 1000000000 = true) (hc : 0 ≤ cas ∧ ¬ cas = lastE us[j]) :
    putK us s data cas now = (us, 5, 0) := by
  rw [putK, if_pos (by simp [h, hs, hn]; omega), cur_at h hj he, if_pos hc]
/-- A path whose last versions are known (the youngest first). -/
structure PastI (us : List Entry) (s : ByteArray) (last : Int) (hs : List UInt8) : Prop where
  ok : storeOk us = true
  path : pathF s = true
  at_ : ∃ j, ∃ hj : j < us.length, us[j].path = s ∧ lastE us[j] = last ∧ (hs.take 8).map (fun b => newV [b] 5) <+: us[j].vs.reverse
theorem past_push {us : List Entry} {s : ByteArray} {last : Int} {hs : List UInt8} (h : PastI us s last hs) (hl : last ≤ 999000) (b : UInt8) : putK us s [b] last 5 = ((putK us s [b] last 5).1, 0, last + 1) ∧ PastI (putK us s [b] last 5).1 s (last + 1) (b :: hs) := by
  obtain ⟨h1, h2, j, hj, he, hla, hp⟩ := h
  obtain ⟨-, -, hv1, hv8, -⟩ := (ok_entry h1).2 us[j] (List.getElem_mem hj)
  obtain ⟨e1, hok⟩ := put_at (data := [b]) (cas := last) (now := 5) h1 h2 hj he (by simp) (by decide) (.inl hla.symm) (by omega)
  rw [e1, hla]
  refine ⟨rfl, hok, h2, j, by simpa using hj, ?_, ?_, ?_⟩
  · rw [List.getElem_set_self, pushE_path, he]
  · rw [List.getElem_set_self, pushE_last hv1, hla]
  · rw [List.getElem_set_self]
    show (newV [b] 5 :: (hs.take 7).map _) <+: _
    have h7 : (hs.take 7).map (fun b => newV [b] 5) <+: us[j].vs.reverse := (((List.take_prefix_take_left (l := hs) (by decide : 7 ≤ 8))).map _).trans hp
    unfold pushE
    split
    · show _ <+: (us[j].vs ++ [newV [b] 5]).reverse
      rw [List.reverse_append]
      exact (List.prefix_cons_inj _).2 h7
    · next h8 =>
      have hl8 : us[j].vs.length = 8 := by omega
      show _ <+: (us[j].vs.drop 1 ++ [newV [b] 5]).reverse
      rw [List.reverse_append]
      refine (List.prefix_cons_inj _).2 ?_
      have e2 : (us[j].vs.drop 1).reverse = us[j].vs.reverse.take 7 := by rw [List.reverse_drop, hl8]
      rw [e2]
      refine List.prefix_take_iff.2 ⟨h7, ?_⟩
      rw [List.length_map, List.length_take]; omega
theorem past_stale {us : List Entry} {s : ByteArray} {last : Int} {hs : List UInt8} (h : PastI us s last hs) (hl : 0 ≤ last) : putK us s [] (last + 1) 5 = (us, 5, 0) := by
  obtain ⟨h1, h2, j, hj, he, hla, -⟩ := h
  exact put_stale h1 h2 hj he (by simp) (by decide) (by rw [hla]; omega)
/-- Eight or more puts: what is found then. -/
theorem past_get {us : List Entry} {s : ByteArray} {last : Int} {hs : List UInt8} (h : PastI us s last hs) (h8 : 8 ≤ hs.length) (hl : 20 ≤ last + 10) (t : Nat) :
    (∀ ht : t < 8, getF us s (last - (t : Int)) = ⟨[hs[t]'(by omega)], 0, last - (t : Int)⟩) ∧ (8 ≤ t → (0 : Int) < last - (t : Int) → getF us s (last - (t : Int)) = ⟨[], 2, 0⟩) := by
  obtain ⟨h1, h2, j, hj, he, hla, hp⟩ := h
  obtain ⟨-, hf, hv1, hv8, -⟩ := (ok_entry h1).2 us[j] (List.getElem_mem hj)
  have hlen : ((hs.take 8).map (fun b => newV [b] 5)).length = 8 := by rw [List.length_map, List.length_take]; omega
  have hpl := hp.length_le
  rw [hlen, List.length_reverse] at hpl
  have hv : us[j].vs.length = 8 := by omega
  have heq : (hs.take 8).map (fun b => newV [b] 5) = us[j].vs.reverse := hp.eq_of_length (by rw [hlen, List.length_reverse, hv])
  have hfl : us[j].first = last - 7 := by unfold lastE at hla; rw [hv] at hla; omega
  have hg : ∀ n : Int, getF us s n = getE us[j] n := fun n => by rw [getF, if_pos h1, ix_at h1 hj he, if_pos (by omega), Int.toNat_natCast, List.getElem?_eq_getElem hj]; rfl
  refine ⟨fun ht => ?_, fun ht h0 => ?_⟩
  · have hn0 : ¬ last - (t : Int) = 0 := by omega
    have hin : inR (last - (t : Int)) us[j].first (us[j].first + (us[j].vs.length : Int) - 1) = true := inR_true.2 ⟨by omega, by rw [hv]; omega⟩
    have hix : (last - (t : Int) - us[j].first).toNat = 7 - t := by rw [hfl]; omega
    have hve : us[j].vs[7 - t]? = some (newV [hs[t]'(by omega)] 5) := by
      have h9 : us[j].vs.reverse[t]? = some (newV [hs[t]'(by omega)] 5) := by
        rw [← heq, List.getElem?_map, List.getElem?_take_of_lt ht, List.getElem?_eq_getElem (by omega)]; rfl
      rw [List.getElem?_reverse (by rw [hv]; exact ht), hv] at h9
      have e3 : 8 - 1 - t = 7 - t := by omega
      rw [e3] at h9; exact h9
    rw [hg, getE, if_neg hn0, if_pos hin, hix, hve]; rfl
  · have hn0 : ¬ last - (t : Int) = 0 := by omega
    have hin : ¬ inR (last - (t : Int)) us[j].first (us[j].first + (us[j].vs.length : Int) - 1) = true := by
      intro h; have := (inR_true.1 h).1; omega
    rw [hg, getE, if_neg hn0, if_neg hin]
end Go.Proofs.YtklmcbabpncfmaaDoor
namespace Go.Proofs.YtklmcbabpncfmaaDoor
open Go.RowKit
set_option linter.unusedVariables false
theorem past_start {us : List Entry} {s : ByteArray} {n : Int} (h : (putK us s [] (-1) 5).2 = (0, n)) (hn : n ≤ 900000) :
    (2 ≤ n ∧ PastI us s (n - 1) []) ∨ (n = 1 ∧ ∀ b : UInt8, putK us s [b] 0 5 = ((putK us s [b] 0 5).1, 0, 1) ∧ PastI (putK us s [b] 0 5).1 s 1 [b] ∧ putK us s [] 1 5 = (us, 5, 0)) := by
  have hv : (storeOk us && (pathF s && (decide (([] : List UInt8).length ≤ 300) && inR 5 0 1000000000))) = true := by
    cases h9 : (storeOk us && (pathF s && (decide (([] : List UInt8).length ≤ 300) && inR 5 0 1000000000))) with
    | true => rfl
    | false =>
      rw [putK, if_neg (by rw [h9]; decide)] at h
      have := congrArg Prod.fst h; simp at this
  have h1 : storeOk us = true := by cases h9 : storeOk us with | true => rfl | false => rw [h9] at hv; simp at hv
  have h2 : pathF s = true := by cases h9 : pathF s with | true => rfl | false => rw [h9] at hv; simp at hv
  rcases ixP_spec (hasP s) us 0 with ⟨hx, hall⟩ | ⟨i, hi, hx, hhit, -⟩
  · right
    have hcu : curK us s = 0 := by rw [curK, hx, if_neg (by omega)]
    have hio : ∀ v : Ver, verOk v = true → storeOk (insK us s ⟨s, 1, [v], none, 0⟩) = decide (us.length < 60) := fun v hv => ins_ok h1 h2 hall hv
    rw [putK, if_pos hv, hcu, if_neg (by omega), hx, if_neg (by omega), hio _ (newV_ok (by simp) (by decide))] at h
    have h60 : us.length < 60 := by
      by_cases h9 : us.length < 60
      · exact h9
      · rw [decide_eq_false h9, if_neg (by decide)] at h
        have := congrArg Prod.fst h; simp at this
    rw [decide_eq_true h60, if_pos rfl] at h
    have hn1 : n = 1 := (congrArg Prod.snd h).symm
    refine ⟨hn1, fun b => ?_⟩
    have hvb : (storeOk us && (pathF s && (decide (([b] : List UInt8).length ≤ 300) && inR 5 0 1000000000))) = true := by rw [h1, h2]; rfl
    have e1 : putK us s [b] 0 5 = (insK us s ⟨s, 1, [newV [b] 5], none, 0⟩, 0, 1) := by
      rw [putK, if_pos hvb, hcu, if_neg (by omega), hx, if_neg (by omega), hio _ (newV_ok (by simp) (by decide)), decide_eq_true h60, if_pos rfl]
    have e2 : putK us s [] 1 5 = (us, 5, 0) := by
      rw [putK, if_pos hv, hcu, if_pos (by omega)]
    rw [e1]
    refine ⟨rfl, ⟨?_, h2, ?_⟩, e2⟩
    · show storeOk (insK us s ⟨s, 1, [newV [b] 5], none, 0⟩) = true
      rw [hio _ (newV_ok (by simp) (by decide))]; exact decide_eq_true h60
    · obtain ⟨p1, -, -⟩ := insE_pos (store_rises h1) hall
      have hlen : (insK us s ⟨s, 1, [newV [b] 5], none, 0⟩).length = us.length + 1 := insAt_len p1
      have hg : (insK us s ⟨s, 1, [newV [b] 5], none, 0⟩)[bsAt (cfE s) us]? = some ⟨s, 1, [newV [b] 5], none, 0⟩ := by
        unfold insK
        rw [ins_get p1, if_neg (by omega), if_pos rfl]
      obtain ⟨hj, hge⟩ := List.getElem?_eq_some_iff.1 hg
      refine ⟨bsAt (cfE s) us, hj, ?_, ?_, ?_⟩
      · rw [hge]
      · rw [hge]; rfl
      · rw [hge]; exact List.prefix_refl _
  · left
    rw [Nat.zero_add] at hx
    have he : us[i].path = s := eqB_iff.1 hhit
    obtain ⟨-, hf, hv1, hv8, -⟩ := (ok_entry h1).2 us[i] (List.getElem_mem hi)
    have hcu := cur_at h1 hi he
    rw [putK, if_pos hv, hcu, if_neg (by omega), hx, if_pos (by omega)] at h
    have hn1 : n = lastE us[i] + 1 := by
      by_cases h9 : storeOk (us.modify ((i : Int)).toNat (pushE (newV [] 5))) = true
      · rw [if_pos h9] at h; exact (congrArg Prod.snd h).symm
      · rw [if_neg h9] at h
        have := congrArg Prod.fst h; simp at this
    refine ⟨by rw [hn1]; unfold lastE; omega, h1, h2, i, hi, he, by rw [hn1]; omega, ?_⟩
    exact List.nil_prefix
def pastN (us : List Entry) (s : ByteArray) (n : Int) : Nat → List Entry
  | 0 => us
  | i + 1 => (putK (pastN us s n i) s [UInt8.ofNat i] (n + (i : Int) - 1) 5).1
def pastH : Nat → List UInt8
  | 0 => []
  | i + 1 => UInt8.ofNat i :: pastH i
theorem pastH_len : ∀ i, (pastH i).length = i
  | 0 => rfl
  | i + 1 => by rw [pastH, List.length_cons, pastH_len]
theorem past_seq {us : List Entry} {s : ByteArray} {n : Int} (h : (putK us s [] (-1) 5).2 = (0, n)) (hn : n ≤ 900000) : ∀ i : Nat, i < 10 →
    (putK (pastN us s n i) s [UInt8.ofNat i] (n + (i : Int) - 1) 5 = (pastN us s n (i + 1), 0, n + (i : Int)) ∧ putK (pastN us s n i) s [] (n + (i : Int)) 5 = (pastN us s n i, 5, 0)) ∧ PastI (pastN us s n (i + 1)) s (n + (i : Int)) (pastH (i + 1)) := by
  have go : ∀ (i : Nat), i < 10 → 1 ≤ n → PastI (pastN us s n i) s (n - 1 + (i : Int)) (pastH i) →
      (putK (pastN us s n i) s [UInt8.ofNat i] (n + (i : Int) - 1) 5 = (pastN us s n (i + 1), 0, n + (i : Int)) ∧ putK (pastN us s n i) s [] (n + (i : Int)) 5 = (pastN us s n i, 5, 0)) ∧ PastI (pastN us s n (i + 1)) s (n + (i : Int)) (pastH (i + 1)) := by
    intro i hi h1 hp
    have e1 : n - 1 + (i : Int) = n + (i : Int) - 1 := by omega
    have e2 : n + (i : Int) - 1 + 1 = n + (i : Int) := by omega
    rw [e1] at hp
    obtain ⟨a1, a2⟩ := past_push hp (by omega) (UInt8.ofNat i)
    have a3 := past_stale hp (by omega)
    rw [e2] at a1 a2 a3
    exact ⟨⟨a1, a3⟩, a2⟩
  intro i
  rcases past_start h hn with ⟨h2, hp⟩ | ⟨rfl, hb⟩
  · induction i with
    | zero =>
      intro h0
      exact go 0 h0 (by omega) (by have e : n - 1 + ((0 : Nat) : Int) = n - 1 := by omega
                                   rw [e]; exact hp)
    | succ i ih =>
      intro hi
      have := (ih (by omega)).2
      refine go (i + 1) hi (by omega) ?_
      have e : n - 1 + ((i + 1 : Nat) : Int) = n + (i : Int) := by omega
      rw [e]; exact this
  · induction i with
    | zero =>
      intro h0
      obtain ⟨b1, b2, b3⟩ := hb (UInt8.ofNat 0)
      exact ⟨⟨b1, b3⟩, b2⟩
    | succ i ih =>
      intro hi
      have := (ih (by omega)).2
      refine go (i + 1) hi (by omega) ?_
      have e : (1 : Int) - 1 + ((i + 1 : Nat) : Int) = 1 + (i : Int) := by omega
      rw [e]; exact this
theorem past_found {us : List Entry} {s : ByteArray} {n : Int} (h : (putK us s [] (-1) 5).2 = (0, n)) (hn : n ≤ 900000) (i : Nat) (hi : i < 10) :
    getF (pastN us s n 10) s (n + (i : Int)) = if i < 2 then ⟨[], 2, 0⟩ else ⟨[UInt8.ofNat i], 0, n + (i : Int)⟩ := by
  have hn1 : 1 ≤ n := by
    rcases past_start h hn with ⟨h2, -⟩ | ⟨rfl, -⟩ <;> omega
  have hp := (past_seq h hn 9 (by omega)).2
  have e9 : n + ((9 : Nat) : Int) = n + 9 := by omega
  rw [e9] at hp
  have hg := past_get hp (by rw [pastH_len]; omega) (by omega) (9 - i)
  have et : n + 9 - ((9 - i : Nat) : Int) = n + (i : Int) := by omega
  rw [et] at hg
  by_cases h2 : i < 2
  · rw [if_pos h2]
    exact hg.2 (by omega) (by omega)
  · rw [if_neg h2, hg.1 (by omega)]
    have hh : ∀ t, (ht : t < 10) → (pastH 10)[t]'(by rw [pastH_len]; exact ht) = UInt8.ofNat (9 - t) := by decide
    have := hh (9 - i) (by omega)
    have e3 : 9 - (9 - i) = i := by omega
    rw [e3] at this
    rw [this]
end Go.Proofs.YtklmcbabpncfmaaDoor
namespace Go.Proofs.YtklmcbabpncfmaaDoor
open Go.RowKit
set_option linter.unusedVariables false
set_option linter.unusedSimpArgs false
theorem bigK_any (A : Option Addr) (n c : Nat) (w : World) (hm : n ≤ maxLen) :
    Calls Tryd.prog 6 #[.slice A n c] w fun e w' => e = .returned (.bool (decide (1048576 < n))) ∧ w = w' := by
  unfold maxLen at hm
  by_cases h : 1048576 < n
  · go_enter Tryd.func6, Tryd.ntmps6
    go_wp2
    go_ret
    exact ⟨by simp; omega, rfl⟩
  · go_enter Tryd.func6, Tryd.ntmps6
    go_wp2
    go_ret
    exact ⟨by simp; omega, rfl⟩
/-- Bounds that the contracts want. -/
def Fit3 (us : List Entry) : Prop := (∀ u ∈ us, u.path.size ≤ maxLen) ∧ (∀ u ∈ us, u.vs.length ≤ 1048576) ∧ (∀ u ∈ us, ∀ v ∈ u.vs, v.data.length ≤ 1048576) ∧ us.length ≤ 1048576
theorem fit_ok {us : List Entry} (h : storeOk us = true) : Fit3 us := by
  obtain ⟨h1, h2⟩ := ok_entry h
  refine ⟨fun u hu => ?_, fun u hu => ?_, fun u hu v hv => ?_, by omega⟩
  · have := (h2 u hu).1; unfold maxLen; omega
  · have := (h2 u hu).2.2.2.1; omega
  · have h9 := List.all_eq_true.1 (h2 u hu).2.2.2.2 v hv
    simp only [verOk, Bool.and_eq_true, decide_eq_true_eq] at h9
    omega
theorem fit_d {us : List Entry} (h : StoD us) : Fit3 us := by
  refine ⟨fun u hu => ?_, fun u hu => ?_, fun u hu v hv => ?_, by have := h.1; omega⟩
  · have := (h.2 u hu).1; unfold maxLen; omega
  · have := (h.2 u hu).2.1; omega
  · have := (h.2 u hu).2.2 v hv; omega
theorem fit_pl {us vs : List Entry} (h : vs.map plE = us.map plE) (hf : Fit3 us) : Fit3 vs := by
  have h1 := ok_copy h hf.1 hf.2.1 hf.2.2.1
  have hl : vs.length = us.length := by have := congrArg List.length h; simpa using this
  exact ⟨h1.1, h1.2.1, h1.2.2, by rw [hl]; exact hf.2.2.2⟩
theorem Hp.nilRd {w : World} : Rd w w.heap.size 1 none 0 0 (([] : List UInt8).flatMap encByte) := ⟨rfl, Nat.le_refl _, Nat.zero_le _, fun h => absurd h (Nat.lt_irrefl _)⟩
theorem wk_sto {w : World} {A : Option Addr} {c n : Nat} {es : List Entry} {L : List Ent} : Wk w (stoE A c n es :: L) (stoX A c n es :: L) := by
  have hw : Wk w (stoR A c n es) (stoXR A c n es) := Wk.cons (fun _ h => h) (fun h => h) (wk_ent es)
  refine Wk.cons (fun b hb => ?_) (fun hp => ?_) (Wk.refl L)
  · obtain ⟨e', he, hs⟩ := (hb : ∃ e ∈ stoXR A c n es, e.S b)
    obtain ⟨e, h1, h2, -⟩ := hw.mem e' he
    exact (⟨e, h1, h2 b hs⟩ : ∃ e ∈ stoR A c n es, e.S b)
  · have hp2 : (∀ e ∈ stoR A c n es, e.P w) ∧ (stoR A c n es).Pairwise apart := hp
    refine (⟨fun e' he => ?_, hw.pair hp2.2⟩ : (∀ e ∈ stoXR A c n es, e.P w) ∧ (stoXR A c n es).Pairwise apart)
    obtain ⟨e, h1, -, h3⟩ := hw.mem e' he
    exact h3 (hp2.1 e h1)
end Go.Proofs.YtklmcbabpncfmaaDoor
namespace Go.Proofs.YtklmcbabpncfmaaDoor
open Go.RowKit
set_option linter.unusedVariables false
/-- A path whose last version is known. -/
structure VerI (us : List Entry) (s : ByteArray) (n : Int) (v : Ver) : Prop where
  ok : storeOk us = true
  at_ : ∃ j, ∃ hj : j < us.length, us[j].path = s ∧ lastE us[j] = n ∧ ∃ pre, us[j].vs = pre ++ [v]
theorem put_done {us rs : List Entry} {s : ByteArray} {data : List UInt8} {cas now n : Int} (h : putK us s data cas now = (rs, 0, n)) : VerI rs s n (newV data now) := by
  have hv : (storeOk us && (pathF s && (decide (data.length ≤ 300) && inR now 0 1000000000))) = true := by
    cases h9 : (storeOk us && (pathF s && (decide (data.length ≤ 300) && inR now 0 1000000000))) with
    | true => rfl
    | false =>
      rw [putK, if_neg (by rw [h9]; decide)] at h
      have := congrArg (fun x => x.2.1) h; simp at this
  have h1 : storeOk us = true := by cases h9 : storeOk us with | true => rfl | false => rw [h9] at hv; simp at hv
  rw [putK, if_pos hv] at h
  by_cases hc : 0 ≤ cas ∧ ¬ cas = curK us s
  · rw [if_pos hc] at h
    have := congrArg (fun x => x.2.1) h; simp at this
  rw [if_neg hc] at h
  rcases ixP_spec (hasP s) us 0 with ⟨hx, hall⟩ | ⟨i, hi, hx, hhit, -⟩
  · rw [hx, if_neg (by omega)] at h
    by_cases hok : storeOk (insK us s ⟨s, 1, [newV data now], none, 0⟩) = true
    · rw [if_pos hok] at h
      obtain ⟨rfl, h9⟩ := Prod.mk.inj h
      obtain ⟨-, rfl⟩ := Prod.mk.inj h9
      obtain ⟨p1, -, -⟩ := insE_pos (store_rises h1) hall
      have hg : (insK us s ⟨s, 1, [newV data now], none, 0⟩)[bsAt (cfE s) us]? = some ⟨s, 1, [newV data now], none, 0⟩ := by
        unfold insK
        rw [ins_get p1, if_neg (by omega), if_pos rfl]
      obtain ⟨hj, hge⟩ := List.getElem?_eq_some_iff.1 hg
      exact ⟨hok, bsAt (cfE s) us, hj, by rw [hge], by rw [hge]; rfl, [], by rw [hge]; rfl⟩
    · rw [if_neg hok] at h
      have := congrArg (fun x => x.2.1) h; simp at this
  · rw [Nat.zero_add] at hx
    have he : us[i].path = s := eqB_iff.1 hhit
    obtain ⟨-, -, hv1, hv8, -⟩ := (ok_entry h1).2 us[i] (List.getElem_mem hi)
    rw [hx, if_pos (by omega), Int.toNat_natCast, modify_set hi, cur_at h1 hi he] at h
    by_cases hok : storeOk (us.set i (pushE (newV data now) us[i])) = true
    · rw [if_pos hok] at h
      obtain ⟨rfl, h9⟩ := Prod.mk.inj h
      obtain ⟨-, rfl⟩ := Prod.mk.inj h9
      refine ⟨hok, i, by simpa using hi, ?_, ?_, ?_⟩
      · rw [List.getElem_set_self, pushE_path, he]
      · rw [List.getElem_set_self, pushE_last hv1]
      · rw [List.getElem_set_self]
        unfold pushE
        split
        · exact ⟨us[i].vs, rfl⟩
        · exact ⟨us[i].vs.drop 1, rfl⟩
    · rw [if_neg hok] at h
      have := congrArg (fun x => x.2.1) h; simp at this
theorem ver_get {us : List Entry} {s : ByteArray} {n m : Int} {v : Ver} (h : VerI us s n v) (hm : m = 0 ∨ m = n) : getF us s m = (if v.dead = true then ⟨[], 4, 0⟩ else if v.gone = true then ⟨[], 3, 0⟩ else ⟨v.data, 0, n⟩) := by
  obtain ⟨h1, j, hj, he, hla, pre, hp⟩ := h
  obtain ⟨-, hf, hv1, hv8, -⟩ := (ok_entry h1).2 us[j] (List.getElem_mem hj)
  have hl : us[j].vs.length = pre.length + 1 := by rw [hp]; simp
  unfold lastE at hla
  have hn1 : 1 ≤ n := by omega
  have hnn : (if m = 0 then us[j].first + (us[j].vs.length : Int) - 1 else m) = n := by
    split
    · exact hla
    · rcases hm with h | h
      · next h2 => exact absurd h h2
      · exact h
  have hix : (n - us[j].first).toNat = pre.length := by omega
  have hve : us[j].vs[pre.length]? = some v := by rw [hp, List.getElem?_append_right (Nat.le_refl _), Nat.sub_self]; rfl
  rw [getF, if_pos h1, ix_at h1 hj he, if_pos (by omega), Int.toNat_natCast, List.getElem?_eq_getElem hj]
  show getE us[j] m = _
  rw [getE, hnn, if_pos (inR_true.2 ⟨by omega, by omega⟩), hix, hve]
theorem actV_ok {what : Int} {v : Ver} (h : verOk v = true) : verOk (actV what v) = true := by
  unfold actV
  simp only [verOk, Bool.and_eq_true, decide_eq_true_eq] at h
  obtain ⟨h1, h2, h3⟩ := h
  split
  · simp only [verOk, killV, Bool.and_eq_true, decide_eq_true_eq]
    exact ⟨decide_eq_true (Nat.zero_le _), h2, by rfl⟩
  · split
    · simp only [verOk, Bool.and_eq_true, decide_eq_true_eq]
      exact ⟨h1, h2, h3⟩
    · next hd =>
      have hdf : v.dead = false := by cases h9 : v.dead with | true => exact absurd h9 hd | false => rfl
      simp only [verOk, goneV, Bool.and_eq_true, decide_eq_true_eq]
      exact ⟨decide_eq_true h1, h2, by rw [hdf]; rfl⟩
theorem ver_each {us : List Entry} {s : ByteArray} {n what : Int} {v : Ver} (h : VerI us s n v) : VerI (eachK us s [n] what).1 s n (actV what v) := by
  obtain ⟨h1, j, hj, he, hla, pre, hp⟩ := h
  obtain ⟨h60, hents, hris⟩ := storeOk_iff.1 h1
  have hev := (ok_entry h1).2 us[j] (List.getElem_mem hj)
  have hl : us[j].vs.length = pre.length + 1 := by rw [hp]; simp
  have hch : chV (fun i => hasI [n] (us[j].first + (i : Int))) (actV what) us[j].vs = pre ++ [actV what v] := by
    refine List.ext_getElem (by rw [chV_len, hp]; simp) fun i i1 i2 => ?_
    have hi : i < us[j].vs.length := by rwa [chV_len] at i1
    rw [chV_get hi]
    unfold lastE at hla
    by_cases hip : i < pre.length
    · have hno : hasI [n] (us[j].first + (i : Int)) = false := by
        rw [← Bool.not_eq_true, hasI_iff, List.mem_singleton]; omega
      rw [hno, if_neg (by decide), List.getElem_append_left hip]
      simp only [hp, List.getElem_append_left hip]
    · have hie : i = pre.length := by omega
      subst hie
      have hyes : hasI [n] (us[j].first + (pre.length : Int)) = true := by
        rw [hasI_iff, List.mem_singleton]; omega
      rw [hyes, if_pos rfl]
      simp [hp]
  have hE : (eachK us s [n] what).1 = us.set j (chE [n] what us[j]) := by
    rw [eachK, if_pos h1, if_pos (by simp), ix_at h1 hj he, if_pos (by omega), Int.toNat_natCast, modify_set hj]
  rw [hE]
  have hvs : (chE [n] what us[j]).vs = pre ++ [actV what v] := hch
  have hok : entOk (chE [n] what us[j]) = true := by
    have h9 := hents us[j] (List.getElem_mem hj)
    simp only [entOk, Bool.and_eq_true] at h9 ⊢
    refine ⟨h9.1, h9.2.1, ?_, ?_⟩
    · rw [hvs]; have := h9.2.2.1; rw [hp] at this; simpa using this
    · rw [hvs]
      have := h9.2.2.2
      rw [hp, List.all_append, Bool.and_eq_true] at this
      rw [List.all_append, Bool.and_eq_true]
      refine ⟨this.1, ?_⟩
      have h8 := this.2
      simp only [List.all_cons, List.all_nil, Bool.and_true] at h8 ⊢
      exact actV_ok h8
  refine ⟨storeOk_iff.2 ⟨by rw [List.length_set]; exact h60, fun e he2 => ?_, ?_⟩, j, by simpa using hj, ?_, ?_, ?_⟩
  · rcases List.mem_or_eq_of_mem_set he2 with h8 | rfl
    · exact hents e h8
    · exact hok
  · have hpth : (us.set j (chE [n] what us[j])).map (·.path) = us.map (·.path) := by
      rw [List.map_set]
      refine List.ext_getElem (by simp) fun k k1 k2 => ?_
      rw [List.getElem_set]
      split
      · next e => subst e; simp [chE]
      · rfl
    rw [hpth]; exact hris
  · rw [List.getElem_set_self]; exact he
  · rw [List.getElem_set_self]
    show us[j].first + ((chE [n] what us[j]).vs.length : Int) - 1 = n
    rw [hvs, List.length_append]
    unfold lastE at hla
    rw [hl] at hla
    exact hla
  · rw [List.getElem_set_self]; exact ⟨pre, hvs⟩
end Go.Proofs.YtklmcbabpncfmaaDoor

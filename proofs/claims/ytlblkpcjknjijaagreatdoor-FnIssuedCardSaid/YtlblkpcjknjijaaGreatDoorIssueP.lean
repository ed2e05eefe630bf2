/- The issue of a certificate, in plain words. No condition. -/
import Derived.Test.YtlblkpcjknjijaaGreatDoorChainP
set_option linter.unusedVariables false
set_option linter.unusedSimpArgs false
namespace Go.Proofs.YtlblkpcjknjijaaGreatDoor
open Go.RowKit
set_option linter.unusedVariables false
/-- Whether an issuer may issue c: 0, or the code why not. -/
def upChk (up c : Cert) : Int := if aboveC up c = false then 5 else if underF up.owner c.owner = false then 6 else if c.from_ < up.from_ ∨ up.to_ < c.to_ then 3 else 0
def mayU (cs : List Cert) (c : Cert) : Int := if c.iss = 0 then 0 else if ixP (hasSer c.iss) cs 0 < 0 then 2 else upChk ((cs[(ixP (hasSer c.iss) cs 0).toNat]?).getD zeroC) c
def byU (cs : List Cert) (ks : List CertKey) (c : Cert) (key : Int) : Int := if c.iss = 0 then key else ((ks[(ixP (hasSer c.iss) cs 0).toNat]?).map (·.key)).getD 0
def marked (c : Cert) (m : Int) : Cert := { c with mark := m }
abbrev insL {α : Type} (i : Nat) (x : α) (l : List α) : List α := l.take i ++ x :: l.drop i
structure IssR where
  cs : List Cert
  ks : List CertKey
  n : Int
def issueU (cs : List Cert) (ks : List CertKey) (ds : List Int) (c : Cert) (key : Int) : IssR :=
  if (pileOk cs ks ds && (certOk c && (inR key 0 1099511627776 && (!anyP (hasSer c.ser) cs && !decide (cs.length = 60))))) = true then
    (if mayU cs c = 0 then ⟨insL (bsAt (cfSer c.ser) cs) (marked c (markF c (byU cs ks c key))) cs, insL (bsAt (cfSer c.ser) cs) ⟨c.ser, key⟩ ks, 0⟩ else ⟨cs, ks, mayU cs c⟩)
  else ⟨cs, ks, 1⟩
section
variable {cs : List Cert} {ks : List CertKey} {ds : List Int} {c : Cert} {key : Int} {i : Nat}
theorem may_root (h : c.iss = 0) : mayU cs c = 0 := by rw [mayU, if_pos h]
theorem may_none (h0 : ¬ c.iss = 0) (h : ixP (hasSer c.iss) cs 0 = -1) : mayU cs c = 2 := by rw [mayU, if_neg h0, h, if_pos (by omega)]
theorem may_hit (h0 : ¬ c.iss = 0) (hi : i < cs.length) (h : ixP (hasSer c.iss) cs 0 = (i : Int)) : mayU cs c = upChk cs[i] c := by
  rw [mayU, if_neg h0, h, if_neg (by omega), Int.toNat_natCast, List.getElem?_eq_getElem hi]; rfl
theorem by_root (h : c.iss = 0) : byU cs ks c key = key := by rw [byU, if_pos h]
theorem by_hit (h0 : ¬ c.iss = 0) (hk : i < ks.length) (h : ixP (hasSer c.iss) cs 0 = (i : Int)) : byU cs ks c key = ks[i].key := by
  rw [byU, if_neg h0, h, Int.toNat_natCast, List.getElem?_eq_getElem hk]; rfl
end
/-- Where a new serial stands: all ahead of it are less, all from it on are greater. -/
theorem ser_pos {cs : List Cert} {ks : List CertKey} {ds : List Int} (h : pileOk cs ks ds = true) {x : Int} (hx : anyP (hasSer x) cs = false) : bsAt (cfSer x) cs ≤ cs.length ∧ (∀ t (ht : t < cs.length), t < bsAt (cfSer x) cs → cs[t].ser < x) ∧ (∀ t (ht : t < cs.length), bsAt (cfSer x) cs ≤ t → x < cs[t].ser) := by
  have hlt : ∀ c : Cert, cfSer x c < 0 ↔ c.ser < x := by
    intro c
    unfold cfSer Go.Lib.compareInt
    split <;> (try split) <;> omega
  have hne : ∀ t (ht : t < cs.length), cs[t].ser ≠ x := by
    intro t ht he
    have : anyP (hasSer x) cs = true := by rw [anyP, List.any_eq_true]; exact ⟨_, List.getElem_mem ht, by simp [hasSer, he]⟩
    rw [hx] at this; cases this
  obtain ⟨-, hkl, -, -, hpr⟩ := pile_iff h
  have hrise : cs.Pairwise (fun a b => a.ser < b.ser) := by
    rw [List.pairwise_iff_getElem]
    intro i j hi hj hij
    exact cert_lt hpr hkl hj hij
  clear h hkl hpr hx
  have key : ∀ l : List Cert, l.Pairwise (fun a b => a.ser < b.ser) → (∀ t (ht : t < l.length), l[t].ser ≠ x) → l.countP (fun c => decide (cfSer x c < 0)) ≤ l.length ∧ (∀ t (ht : t < l.length), t < l.countP (fun c => decide (cfSer x c < 0)) → l[t].ser < x) ∧ (∀ t (ht : t < l.length), l.countP (fun c => decide (cfSer x c < 0)) ≤ t → x < l[t].ser) := by
    intro l
    induction l with
    | nil => intro _ _; exact ⟨Nat.le_refl _, fun t ht => absurd ht (Nat.not_lt_zero _), fun t ht => absurd ht (Nat.not_lt_zero _)⟩
    | cons a l ih =>
      intro hp hn
      have h1 := (List.pairwise_cons.1 hp).1
      obtain ⟨i1, i2, i3⟩ := ih (List.pairwise_cons.1 hp).2 (fun t ht => hn (t + 1) (Nat.succ_lt_succ ht))
      have hna : a.ser ≠ x := hn 0 (Nat.succ_pos _)
      by_cases ha : a.ser < x
      · have e : (a :: l).countP (fun c => decide (cfSer x c < 0)) = l.countP (fun c => decide (cfSer x c < 0)) + 1 := List.countP_cons_of_pos (by simpa [hlt] using ha)
        rw [e]
        refine ⟨by simpa using i1, fun t ht hte => ?_, fun t ht hte => ?_⟩
        · cases t with
          | zero => exact ha
          | succ t => exact i2 t (by simpa using ht) (by omega)
        · cases t with
          | zero => omega
          | succ t => exact i3 t (by simpa using ht) (by omega)
      · have e : (a :: l).countP (fun c => decide (cfSer x c < 0)) = 0 := by
          rw [List.countP_eq_zero]
          intro b hb
          rcases List.mem_cons.1 hb with rfl | hb
          · simpa [hlt] using ha
          · have := h1 b hb
            simp only [decide_eq_true_eq, hlt]; omega
        rw [e]
        refine ⟨Nat.zero_le _, fun t _ hte => absurd hte (Nat.not_lt_zero _), fun t ht _ => ?_⟩
        cases t with
        | zero => show x < a.ser; omega
        | succ t =>
          have ht2 : t < l.length := by simpa using ht
          have := h1 l[t] (List.getElem_mem ht2)
          show x < l[t].ser; omega
  exact key cs hrise hne
theorem issueU_len (cs : List Cert) (ks : List CertKey) (ds : List Int) (c : Cert) (key : Int) (h0 : cs.length ≤ 1048576) (h1 : ks.length ≤ 1048576) : (issueU cs ks ds c key).cs.length ≤ 1048576 ∧ (issueU cs ks ds c key).ks.length ≤ 1048576 := by
  unfold issueU
  split
  · rename_i hq
    have h60 : pileOk cs ks ds = true := by rw [Bool.and_eq_true] at hq; exact hq.1
    obtain ⟨q1, q2, -, -, -⟩ := pile_iff h60
    have hb : bsAt (cfSer c.ser) cs ≤ cs.length := List.countP_le_length
    split
    · refine ⟨?_, ?_⟩
      · show (insL _ _ cs).length ≤ _
        rw [insL, insAt_len hb]; omega
      · show (insL _ _ ks).length ≤ _
        rw [insL, insAt_len (by omega)]; omega
    · exact ⟨h0, h1⟩
  · exact ⟨h0, h1⟩
end Go.Proofs.YtlblkpcjknjijaaGreatDoor

/- Certificates and piles: which are valid, in plain words. No condition. -/
import Derived.Test.YtlblkpcjknjijaaGreatDoorM3
import Derived.Test.YtlblkpcjknjijaaGreatDoorM4
import Derived.Test.YtlblkpcjknjijaaGreatDoorM2
set_option linter.unusedVariables false
set_option linter.unusedSimpArgs false
namespace Go.Proofs.YtlblkpcjknjijaaGreatDoor
open Go.RowKit
set_option linter.unusedVariables false
abbrev valCert (c : Cert) : Value := .agg #[.int .i64 c.ser, .string c.owner, .int .i64 c.iss, .int .i64 c.from_, .int .i64 c.to_, .bool c.ca, .int .i64 c.depth, .int .i64 c.mark]
def certOk (c : Cert) : Bool := inR c.ser 1 1000000000 && (pathF c.owner && (inR c.iss 0 1000000000 && ((c.iss != c.ser) && (inR c.from_ 0 1000000000 && (inR c.to_ c.from_ 1000000000 && (inR c.depth 0 6 && (c.ca || (c.depth == 0))))))))
def keyOk (k : Int) : Bool := inR k 0 1099511627776
def pileStep (cs : List Cert) (ks : List CertKey) (i : Nat) : Bool := match cs[i]?, ks[i]? with
  | some c, some k => certOk c && ((decide (i = 0) || decide (((cs[i - 1]?.map (·.ser)).getD 0) < c.ser)) && ((k.ser == c.ser) && keyOk k.key))
  | _, _ => false
def pileRise (cs : List Cert) (ks : List CertKey) (n : Nat) : Bool := (List.range n).all (pileStep cs ks)
def deadStep (ds : List Int) (i : Nat) : Bool := match ds[i]? with
  | some d => inR d 1 1000000000 && (decide (i = 0) || decide (((ds[i - 1]?).getD 0) < d))
  | none => false
def deadRise (ds : List Int) (n : Nat) : Bool := (List.range n).all (deadStep ds)
def pileOk (cs : List Cert) (ks : List CertKey) (ds : List Int) : Bool := decide (cs.length ≤ 60) && (decide (ks.length = cs.length) && (decide (ds.length ≤ 60) && (deadRise ds ds.length && pileRise cs ks cs.length)))
theorem pileRise_snoc {cs : List Cert} {ks : List CertKey} {k : Nat} (h : pileRise cs ks k = true) (hs : pileStep cs ks k = true) : pileRise cs ks (k + 1) = true := by
  simp [pileRise, List.range_succ, List.all_append] at h ⊢; exact ⟨h, hs⟩
theorem pileRise_no {cs : List Cert} {ks : List CertKey} {k n : Nat} (hk : k < n) (hs : pileStep cs ks k = false) : pileRise cs ks n = false := by
  rw [pileRise, List.all_eq_false]; exact ⟨k, by simpa using hk, by simp [hs]⟩
theorem deadRise_snoc {ds : List Int} {k : Nat} (h : deadRise ds k = true) (hs : deadStep ds k = true) : deadRise ds (k + 1) = true := by
  simp [deadRise, List.range_succ, List.all_append] at h ⊢; exact ⟨h, hs⟩
theorem deadRise_no {ds : List Int} {k n : Nat} (hk : k < n) (hs : deadStep ds k = false) : deadRise ds n = false := by
  rw [deadRise, List.all_eq_false]; exact ⟨k, by simpa using hk, by simp [hs]⟩
theorem pile_iff {cs : List Cert} {ks : List CertKey} {ds : List Int} (h : pileOk cs ks ds = true) : cs.length ≤ 60 ∧ ks.length = cs.length ∧ ds.length ≤ 60 ∧ deadRise ds ds.length = true ∧ pileRise cs ks cs.length = true := by
  simp only [pileOk, Bool.and_eq_true, decide_eq_true_eq] at h
  exact ⟨h.1, h.2.1, h.2.2.1, h.2.2.2.1, h.2.2.2.2⟩
theorem dead_at {ds : List Int} (h : deadRise ds ds.length = true) : ∀ (i : Nat) (hi : i < ds.length), (1 ≤ ds[i] ∧ ds[i] ≤ 1000000000) ∧ (0 < i → ((ds[i - 1]?).getD 0) < ds[i]) := by
  intro i hi
  rw [deadRise, List.all_eq_true] at h
  have h2 := h i (by simpa using hi)
  rw [deadStep, List.getElem?_eq_getElem hi] at h2
  simp only [Bool.and_eq_true, Bool.or_eq_true, decide_eq_true_eq, inR_true] at h2
  exact ⟨h2.1, fun h0 => h2.2.resolve_left (by omega)⟩
theorem dead_lt {ds : List Int} (h : deadRise ds ds.length = true) : ∀ {i j : Nat} (hj : j < ds.length) (hij : i < j), ds[i]'(by omega) < ds[j] := by
  intro i j hj hij
  induction j with
  | zero => omega
  | succ j ih =>
    have h1 := (dead_at h (j + 1) hj).2 (by omega)
    rw [Nat.add_sub_cancel, List.getElem?_eq_getElem (by omega : j < ds.length), Option.getD_some] at h1
    by_cases e : i = j
    · subst e; exact h1
    · exact Int.lt_trans (ih (by omega) (by omega)) h1
theorem pile_at {cs : List Cert} {ks : List CertKey} {n : Nat} (h : pileRise cs ks n = true) (hc : n ≤ cs.length) (hl : ks.length = cs.length) : ∀ (i : Nat) (hi : i < n), certOk (cs[i]'(by omega)) = true ∧ (0 < i → ((cs[i - 1]?.map (·.ser)).getD 0) < (cs[i]'(by omega)).ser) ∧ (ks[i]'(by omega)).ser = (cs[i]'(by omega)).ser ∧ keyOk (ks[i]'(by omega)).key = true := by
  intro i hi
  rw [pileRise, List.all_eq_true] at h
  have h2 := h i (by simpa using hi)
  rw [pileStep, List.getElem?_eq_getElem (by omega : i < cs.length), List.getElem?_eq_getElem (by omega : i < ks.length)] at h2
  simp only [Bool.and_eq_true, Bool.or_eq_true, decide_eq_true_eq, beq_iff_eq] at h2
  exact ⟨h2.1, fun h0 => h2.2.1.resolve_left (by omega), h2.2.2.1, h2.2.2.2⟩
theorem cert_lt {cs : List Cert} {ks : List CertKey} (h : pileRise cs ks cs.length = true) (hl : ks.length = cs.length) : ∀ {i j : Nat} (hj : j < cs.length) (hij : i < j), (cs[i]'(by omega)).ser < cs[j].ser := by
  intro i j hj hij
  induction j with
  | zero => omega
  | succ j ih =>
    have h1 := (pile_at h (Nat.le_refl _) hl (j + 1) hj).2.1 (by omega)
    rw [Nat.add_sub_cancel, List.getElem?_eq_getElem (by omega : j < cs.length)] at h1
    have h1 : cs[j].ser < cs[j + 1].ser := h1
    by_cases e : i = j
    · subst e; exact h1
    · exact Int.lt_trans (ih (by omega) (by omega)) h1
end Go.Proofs.YtlblkpcjknjijaaGreatDoor

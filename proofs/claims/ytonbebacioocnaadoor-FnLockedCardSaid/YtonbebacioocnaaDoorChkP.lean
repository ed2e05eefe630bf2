/- Checks of a code: plain definitions and lemmas. No condition. -/
import Derived.Test.YtonbebacioocnaaDoorStr
namespace Go.Proofs.YtonbebacioocnaaDoor
open Go.RowKit
/-- The first place from c on, of n places, where P holds. -/
def findC (P : Nat → Bool) : Nat → Nat → Option Nat
  | 0, _ => none
  | n + 1, c => if P c = true then some c else findC P n (c + 1)
theorem findC_go {P : Nat → Bool} {m c : Nat} {r : Option Nat} (h : findC P m c = r) (hm : 0 < m) (hp : P c = false) : findC P (m - 1) (c + 1) = r := by
  obtain ⟨k, rfl⟩ : ∃ k, m = k + 1 := ⟨m - 1, by omega⟩
  rw [findC, hp] at h
  simpa using h
theorem findC_hit {P : Nat → Bool} {m c : Nat} {r : Option Nat} (h : findC P m c = r) (hm : 0 < m) (hp : P c = true) : r = some c := by
  obtain ⟨k, rfl⟩ : ∃ k, m = k + 1 := ⟨m - 1, by omega⟩
  rw [findC, if_pos hp] at h
  exact h.symm
theorem findC_end {P : Nat → Bool} {c : Nat} {r : Option Nat} (h : findC P 0 c = r) : r = none := h.symm
def leastI (a b : Int) : Int := if a < b then a else b
def wrongFails (f : Int) : Int := if 1000 < f + 1 then 1000 else f + 1
def waitOf (f : Int) : Int := if f - 3 < 12 then (2 : Int) ^ (f - 3).toNat else 4096
def wrongTil (f til now : Int) : Int := if 3 ≤ wrongFails f then now + waitOf (wrongFails f) else til
theorem pow_wait {f : Int} (h0 : 3 ≤ f) (h : f - 3 < 12) : (1 : Int) ≤ 2 ^ (f - 3).toNat ∧ (2 : Int) ^ (f - 3).toNat ≤ 2048 := by
  have h : f = 3 ∨ f = 4 ∨ f = 5 ∨ f = 6 ∨ f = 7 ∨ f = 8 ∨ f = 9 ∨ f = 10 ∨ f = 11 ∨ f = 12 ∨ f = 13 ∨ f = 14 := by omega
  rcases h with rfl | rfl | rfl | rfl | rfl | rfl | rfl | rfl | rfl | rfl | rfl | rfl <;> decide
theorem waitOf_bd {f : Int} (h0 : 3 ≤ f) : 1 ≤ waitOf f ∧ waitOf f ≤ 4096 := by
  unfold waitOf
  split
  · rename_i h
    have := pow_wait h0 h
    omega
  · omega
/-- A device and what was answered. -/
structure Chk where
  k : Int
  c : Int
  f : Int
  u : Int
  what : Int
def Chk.dev (r : Chk) : Value := .agg #[.int .i64 r.k, .int .i64 r.c, .int .i64 r.f, .int .i64 r.u]
def Chk.val (r : Chk) : Value := .tuple #[.agg #[.int .i64 r.k, .int .i64 r.c, .int .i64 r.f, .int .i64 r.u], .int .i64 r.what]
def wrongC (k c f u now : Int) : Chk := ⟨k, c, wrongFails f, wrongTil f u now, 3⟩
def chkEnd (k c f u now step : Int) : Option Nat → Chk
  | some x => ⟨k, leastI (x + step) 1000000000, 0, 0, 0⟩
  | none => wrongC k c f u now
end Go.Proofs.YtonbebacioocnaaDoor

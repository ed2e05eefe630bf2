/- Elements Job: their rows as entries of a footprint. No condition. -/
import Derived.Test.YtonbebacioocnaaElJob
import Derived.Test.YtonbebacioocnaaHp
namespace Go.Proofs.Ytonbebacioocnaa
open Go.RowKit
set_option linter.unusedVariables false

abbrev rJob (A : Option Addr) (c : Nat) (us : List Job) : Ent := row 56 3 (.slice A us.length c) us.length (us.flatMap encJob)
theorem rJob_snoc (A : Option Addr) (c : Nat) (us : List Job) (u : Job) : row 56 3 (.slice A (us.length + 1) c) (us.length + 1) (us.flatMap encJob ++ encJob u) = rJob A c (us ++ [u]) := by simp [rJob]
theorem oneJob (u : Job) : ∀ x ∈ encJob u, x.oneCell' = true := by intro x hx; simp [encJob] at hx; rcases hx with rfl | rfl | rfl <;> rfl
theorem toJobS_hp (A : Option Addr) (c : Nat) (us : List Job) (w : World) (hr : Rd w w.heap.size 3 A us.length c (us.flatMap encJob)) (hb : us.length ≤ 1048576) :
    Calls Try.prog 27 #[.slice A us.length c] w fun e w' => ∃ A' c', e = .returned (.slice A' us.length c') ∧ Hp w w' [rJob A' c' us] :=
  (toJobS_any A us.length c us w hr rfl hb).mono fun e w' ⟨A', c', he, h, hb'⟩ => ⟨A', c', he, Hp.ofOwn hb' h (Nat.le_refl _)⟩
theorem markJobS_hp (A : Option Addr) (n c m : Nat) (mi : Int) (hmi : mi = (m : Int)) (xs : List Value) (w w0 : World) (L L' : List Ent) (H : Hp w0 w L) (hr : Rep L (row 56 3 (.slice A n c) n xs) (row 56 3 (.slice A n c) n (marksJob m n)) L') (h0 : 0 < m) (hm : m + n * 3 ≤ 1125899906842624) :
    Calls Try.prog 37 #[.slice A n c, .int .i64 mi] w fun e w' => e = .returned (.int .i64 ((m + n * 3 : Nat) : Int)) ∧ Hp w0 w' L' :=
  by subst hmi; exact (markJobS_any A n c m _ _ xs w (H.ownM hr.mem).1 h0 hm).mono fun e w' ⟨he, h, hc⟩ => ⟨he, H.chgM hr h hc⟩
theorem heldJobS_hp (A : Option Addr) (n c m : Nat) (mi : Int) (hmi : mi = (m : Int)) (w : World) (hr : Rd w w.heap.size 3 A n c (marksJob m n)) (h0 : 0 < m) (hm : m + n * 3 ≤ 1125899906842624) :
    Calls Try.prog 40 #[.slice A n c, .int .i64 mi] w fun e w' => e = .returned (.int .i64 ((m + n * 3 : Nat) : Int)) ∧ Below w.heap.size w w' := by subst hmi; exact heldJobS_any A n c m w hr h0 hm
end Go.Proofs.Ytonbebacioocnaa

/- FnExactDropUser: the walk. No condition. -/
import Derived.Test.YtinenkjfdmajkaaFarE
import Derived.Test.YtinenkjfdmajkaaLwDropUser
namespace Go.Proofs.Ytinenkjfdmajkaa
open Go.RowKit
theorem wf64 {x : Int} (h : (Lit.int .i64 x).wf = true) : -9223372036854775808 ≤ x ∧ x ≤ 9223372036854775807 := by
  simp only [Lit.wf, Bool.and_eq_true, decide_eq_true_eq] at h
  exact h
theorem lawDropUser (A : Option Addr) (n c : Nat) (us : List User) (fail made : Int) (s : ByteArray) (w : World) (hr : Rd w w.heap.size 2 A n c (us.flatMap encUser)) (hn : us.length = n) (hf : ∀ u ∈ us, UserFits u) (hfail : -9223372036854775808 ≤ fail ∧ fail ≤ 9223372036854775807) (hs : s.size ≤ maxLen) :
    Calls Try.prog 10 #[.agg #[.slice A n c, .int .i64 fail, .int .i64 made], .string s] w fun e w' => e = .returned (.bool true) ∧ Below w.heap.size w w' := by
  obtain ⟨rs, rf, rc, hd⟩ : ∃ rs rf rc, dropU us fail made s = ⟨rs, rf, rc⟩ := ⟨_, _, _, rfl⟩
  have hl := dropU_len us fail made s
  rw [hd] at hl
  exact fnExactDropUser_walk A n c us fail made s rs rf made rc (fun h => by have : rs.length ≤ us.length := hl; omega) w hr hn hf hs (fun W a d h hb => specDropUser_any a n d us fail made s rs rf rc hd W h hn hf hb hfail) (fun W a d h hb => implDropUser_any a n d us fail made s rs rf rc hd W h hn hf hb hfail)
end Go.Proofs.Ytinenkjfdmajkaa

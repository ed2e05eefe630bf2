/- FnExactRunQueue: the walk. No condition. -/
import Derived.Test.YtonbebacioocnaaLhRunQueue
import Derived.Test.YtonbebacioocnaaRunB
import Derived.Test.YtonbebacioocnaaRunJ
namespace Go.Proofs.Ytonbebacioocnaa
open Go.RowKit
theorem runF_len (js : List Job) (us : List User) (fail made now : Int) (h1 : js.length ≤ 1048576) (h2 : us.length ≤ 1048576) :
    (runF js us fail made now).out.length ≤ 1048576 ∧ (runF js us fail made now).us.length ≤ 1048576 ∧ (runF js us fail made now).gone.length ≤ 1048576 ∧ (runF js us fail made now).given.length ≤ 1048576 := by
  unfold runF
  split
  · rename_i h
    have h3 := runQ_total js us fail now
    have h4 := (farOk_iff.1 (runQ_far (js := js) (now := now) h.2.1)).1
    omega
  · simp; omega
theorem lawRunQueue (A : Option Addr) (n c : Nat) (js : List Job) (A' : Option Addr) (m c' : Nat) (us : List User) (fail made now : Int) (w : World) (hr : Rd w w.heap.size 3 A n c (js.flatMap encJob)) (hn : js.length = n) (hf : ∀ u ∈ js, JobFits u)
    (hr' : Rd w w.heap.size 2 A' m c' (us.flatMap encUser)) (hn' : us.length = m) (hf' : ∀ u ∈ us, UserFits u) :
    Calls Try.prog 3 #[.agg #[.slice A n c], .agg #[.slice A' m c', .int .i64 fail, .int .i64 made], .int .i64 now] w fun e w' => e = .returned (.bool true) ∧ Below w.heap.size w w' := by
  subst hn hn'
  refine fnExactRunQueue_law A c js A' c' us fail made now (runF js us fail made now).out (runF js us fail made now).us (runF js us fail made now).fail made (runF js us fail made now).gone (runF js us fail made now).given
    (fun a b => (runF_len js us fail made now a b).1) (fun a b => (runF_len js us fail made now a b).2.1) (fun a b => (runF_len js us fail made now a b).2.2.1) (fun a b => (runF_len js us fail made now a b).2.2.2) w hr hf hr' hf' ?_ ?_
  · exact fun W a0 d0 a1 d1 h0 b0 h1 b1 => (specRunQueue_hp a0 js.length d0 js a1 us.length d1 us fail made now W h0 rfl hf b0 h1 rfl hf' b1).mono fun e w' ⟨AO, AF, AG, AV, cO, cF, cG, cV, he, h⟩ => ⟨AO, cO, AF, cF, AG, cG, AV, cV, he, h⟩
  · exact fun W a0 d0 a1 d1 h0 b0 h1 b1 => (implRunQueue_hp a0 js.length d0 js a1 us.length d1 us fail made now W h0 rfl hf b0 h1 rfl hf' b1).mono fun e w' ⟨AO, AF, AG, AV, cO, cF, cG, cV, he, h⟩ => ⟨AO, cO, AF, cF, AG, cG, AV, cV, he, h⟩
end Go.Proofs.Ytonbebacioocnaa

/- FnExactQueueDrop: the walk. No condition. -/
import Derived.Test.YtinenkjfdmajkaaQueueE
import Derived.Test.YtinenkjfdmajkaaLwQueueDrop
namespace Go.Proofs.Ytinenkjfdmajkaa
open Go.RowKit
theorem dropJob_len {js : List Job} {s : ByteArray} {x : Int} {rs : List Job} {rb : Bool} (h : dropJob js s x = (rs, rb)) (hn : js.length ≤ 1048576) : rs.length ≤ 1048576 := by
  rw [dropJob] at h
  split at h
  · split at h
    · obtain ⟨rfl, rfl⟩ := Prod.mk.inj h; exact hn
    · split at h
      · rename_i hq
        obtain ⟨rfl, rfl⟩ := Prod.mk.inj h
        rw [queueOk] at hq
        simp only [Bool.and_eq_true, decide_eq_true_eq] at hq
        omega
      · obtain ⟨rfl, rfl⟩ := Prod.mk.inj h; exact hn
  · obtain ⟨rfl, rfl⟩ := Prod.mk.inj h; exact hn
theorem lawQueueDrop (A : Option Addr) (n c : Nat) (js : List Job) (s : ByteArray) (x : Int) (w : World) (hr : Rd w w.heap.size 3 A n c (js.flatMap encJob)) (hn : js.length = n) (hf : ∀ u ∈ js, JobFits u) (hs : s.size ≤ maxLen) :
    Calls Try.prog 8 #[.agg #[.slice A n c], .string s, .int .i64 x] w fun e w' => e = .returned (.bool true) ∧ Below w.heap.size w w' := by
  obtain ⟨rs, rb, hd⟩ : ∃ rs rb, dropJob js s x = (rs, rb) := ⟨_, _, rfl⟩
  exact fnExactQueueDrop_walk A n c js s x rs rb (fun h => dropJob_len hd (by omega)) w hr hn hf hs (fun W a d h hb => specQueueDrop_any a n d js s x rs rb hd W h hn hf hs hb) (fun W a d h hb => implQueueDrop_any a n d js s x rs rb hd W h hn hf hs hb)
end Go.Proofs.Ytinenkjfdmajkaa

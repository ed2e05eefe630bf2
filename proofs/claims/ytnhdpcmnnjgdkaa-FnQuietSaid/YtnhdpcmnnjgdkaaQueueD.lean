/- Queues: drop (the reference's and the program's). No condition. -/
import Derived.Test.YtnhdpcmnnjgdkaaQueueC
set_option linter.unusedVariables false
set_option linter.unusedSimpArgs false
namespace Go.Proofs.Ytnhdpcmnnjgdkaa
open Go.RowKit
set_option linter.unusedVariables false

def newJob (s : ByteArray) (x : Int) : Job := ⟨s, x, 0⟩
def dropJob (js : List Job) (s : ByteArray) (x : Int) : List Job × Bool :=
  if queueOk js then (if anyP (sameName s) js then (js, true) else if queueOk (js ++ [newJob s x]) then (js ++ [newJob s x], true) else (js, false)) else (js, false)

theorem fits_snoc {js : List Job} {s : ByteArray} {x : Int} (hf : ∀ u ∈ js, JobFits u) (hs : s.size ≤ maxLen) : ∀ u ∈ js ++ [newJob s x], JobFits u := by
  intro u hu
  rcases List.mem_append.1 hu with h | h
  · exact hf u h
  · rw [List.mem_singleton.1 h]; exact hs
theorem flat_snoc {α : Type} (enc : α → List Value) (us : List α) (u : α) : us.flatMap enc ++ enc u = (us ++ [u]).flatMap enc := by
  rw [List.flatMap_append]; congr 1; exact (List.append_nil _).symm

set_option maxHeartbeats 4000000 in
theorem cloneQueue_any (A : Option Addr) (n c : Nat) (js : List Job) (w : World) (hr : Rd w w.heap.size 3 A n c (js.flatMap encJob)) (hn : js.length = n) (hb20 : n ≤ 1048576) :
    Calls Try.prog 22 #[.agg #[.slice A n c]] w fun e w' => ∃ A' c', e = .returned (.agg #[.slice A' n c']) ∧ Own w' w.heap.size w'.heap.size 45 3 (.slice A' n c') n (js.flatMap encJob) ∧ Below w.heap.size w w' := by
  go_enter Try.func22, Try.ntmps22
  go_wp2_with fail
  refine (cloneJob_any A n c js _ ((hr.alloc _).alloc _) hn hb20).mono ?_
  rintro e w1 ⟨A1, c1, rfl, own1, hb1'⟩
  obtain ⟨hbt, -, hx1⟩ := step_alloc hb1'
  obtain ⟨hb1, hz1, hx0⟩ := step_alloc hbt
  simp only [World.size_alloc] at hx1 own1
  have bx1 : Bx w1 (w.heap.size + 1) 26 #[.slice none 0 0] := hx1
  have ce1 : w1.cell? ⟨w.heap.size + 1, 0, none⟩ = some (.slice none 0 0) := bx1.cell 0
  have cf1 := bx1.frozen 0
  have lt1 := bx1.lt
  have HO := Lib.hid own1; clear own1
  have HB := Lib.hid hb1; clear hb1 hbt hb1' hx0 hx1
  go_wp2_with fail
  refine bodyPost_ret (v := .agg #[.slice A1 n c1]) (by simp [results, Try.results22, go_sem, ce1]) rfl ⟨_, _, rfl, ?_, ?_⟩
  · exact (Own.set_far HO.out (by left; omega) _).mono (by omega) (by simp [World.setCell]) (Nat.le_refl _)
  · exact HB.out.setCell (by show w.heap.size ≤ w.heap.size + 1; omega) _

def DropQ (w : World) (rs : List Job) (rb : Bool) (e : Ending) (w' : World) : Prop := ∃ A' c' lo hi, e = .returned (.tuple #[.agg #[.slice A' rs.length c'], .bool rb]) ∧ Own w' lo hi 45 3 (.slice A' rs.length c') rs.length (rs.flatMap encJob) ∧ w.heap.size ≤ lo ∧ Below w.heap.size w w'

end Go.Proofs.Ytnhdpcmnnjgdkaa

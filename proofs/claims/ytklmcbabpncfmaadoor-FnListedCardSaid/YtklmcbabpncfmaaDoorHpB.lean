/- A footprint's entries bundled into one, and laid open again. No condition. -/
import Derived.Test.YtklmcbabpncfmaaDoorHp
namespace Go.Proofs.YtklmcbabpncfmaaDoor
open Go.RowKit
set_option linter.unusedVariables false
/-- Many entries as one. -/
def bund (R : List Ent) : Ent :=
  reg (fun b => ∃ e ∈ R, e.S b) (fun w => (∀ e ∈ R, e.P w) ∧ R.Pairwise apart) (fun w w' h hp => ⟨fun e he => e.loc w w' (fun b hb => h b ⟨e, he, hb⟩) (hp.1 e he), hp.2⟩)
theorem Hp.pack {w0 w : World} (L R : List Ent) (H : Hp w0 w (L ++ R)) : Hp w0 w (L ++ [bund R]) := by
  obtain ⟨h1, h2, h3⟩ := List.pairwise_append.1 H.ap
  refine ⟨H.b, fun e he => ?_, List.pairwise_append.2 ⟨h1, List.pairwise_singleton _ _, fun a ha b' hb' x hx hx' => ?_⟩⟩
  · rcases List.mem_append.1 he with he | he
    · exact H.ok e (List.mem_append_left _ he)
    · rw [List.mem_singleton.1 he]
      exact ⟨⟨fun e he => (H.ok e (List.mem_append_right _ he)).p, h2⟩, fun b hb => by obtain ⟨e, he, hs⟩ := hb; exact (H.ok e (List.mem_append_right _ he)).lt b hs⟩
  · rw [List.mem_singleton.1 hb'] at hx'
    obtain ⟨e, he, hs⟩ := hx'
    exact h3 a ha e he x hx hs
theorem Hp.unpack {w0 w : World} (L R : List Ent) (H : Hp w0 w (L ++ [bund R])) : Hp w0 w (L ++ R) := by
  obtain ⟨h1, -, h3⟩ := List.pairwise_append.1 H.ap
  have hb : (bund R).Ok w0.heap.size w := H.ok _ (List.mem_append_right _ List.mem_cons_self)
  have hp : (∀ e ∈ R, e.P w) ∧ R.Pairwise apart := hb.p
  refine ⟨H.b, fun e he => ?_, List.pairwise_append.2 ⟨h1, hp.2, fun a ha b' hb' x hx hx' => ?_⟩⟩
  · rcases List.mem_append.1 he with he | he
    · exact H.ok e (List.mem_append_left _ he)
    · exact ⟨hp.1 e he, fun b hs => hb.lt b ⟨e, he, hs⟩⟩
  · exact h3 a ha _ List.mem_cons_self x hx ⟨b', hb', hx'⟩
inductive Unb : List Ent → List Ent → Prop
  | last {R : List Ent} : Unb [bund R] R
  | cons {e : Ent} {L L' : List Ent} : Unb L L' → Unb (e :: L) (e :: L')
theorem Unb.form {L L' : List Ent} (h : Unb L L') : ∃ M R, L = M ++ [bund R] ∧ L' = M ++ R := by
  induction h with
  | last => exact ⟨[], _, rfl, rfl⟩
  | cons h ih => obtain ⟨M, R, rfl, rfl⟩ := ih; exact ⟨_ :: M, R, rfl, rfl⟩
theorem Hp.unb {w0 w : World} {L L' : List Ent} (H : Hp w0 w L) (h : Unb L L') : Hp w0 w L' := by
  obtain ⟨M, R, rfl, rfl⟩ := h.form
  exact H.unpack M R
end Go.Proofs.YtklmcbabpncfmaaDoor

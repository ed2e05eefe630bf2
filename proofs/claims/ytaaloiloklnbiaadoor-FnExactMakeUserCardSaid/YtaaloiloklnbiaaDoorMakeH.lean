/- slices.Insert of one User over a footprint. No condition. -/
import Derived.Test.YtaaloiloklnbiaaDoorIns
import Derived.Test.YtaaloiloklnbiaaDoorMakeP
import Derived.Test.YtaaloiloklnbiaaDoorHp
import Derived.Test.YtaaloiloklnbiaaDoorFarC
namespace Go.Proofs.YtaaloiloklnbiaaDoor
open Go.RowKit
set_option linter.unusedVariables false
theorem insUser_hp {w0 w : World} {L : List Ent} (A : Option Addr) (c i vb : Nat) (us : List User) (u : User) (H : Hp w0 w L) (hm : rUser A c us ∈ L) (hb : box vb 34 (encUser u) ∈ L) (h20 : us.length ≤ 1048576) (hin : i ≤ us.length) (hne : ∀ a, A = some a → vb ≠ a.block) :
    Calls Tryd.prog 60 #[.slice A us.length c, .int .i64 i, .slice (some ⟨vb, 0, none⟩) 1 1] w fun e w' => ∃ A' c', e = .returned (.slice A' (us.length + 1) c') ∧ ∀ L', Rep L (rUser A c us) (rUser A' c' (us.take i ++ u :: us.drop i)) L' → Hp w0 w' L' := by
  obtain ⟨ho, hlo⟩ := H.ownM hm
  have hv : Bx w vb 34 (encUser u).toArray := (H.ok _ hb).p
  have hvl := hv.lt
  have hls : loA A w.heap.size ≤ w.heap.size := by
    cases A with
    | none => exact Nat.le_refl _
    | some a => have h1 := ho.2.1 a.block; have h2 := ho.2.2; have h3 : (Value.slice (some a) us.length c).ownBlock = some a.block := rfl; have := (ho.1.lt a.block h3).2; show a.block ≤ _; omega
  have hap : vb < loA A w.heap.size ∨ hiA A w.heap.size ≤ vb := by
    cases A with
    | none => exact .inl hvl
    | some a => have := hne a rfl; show vb < a.block ∨ a.block + 1 ≤ vb; omega
  refine (insUser_any A us.length c i _ _ vb us u w ho rfl h20 hls hin hv hap).mono ?_
  rintro e w' ⟨A', c', lo', hi', rfl, own2, hc, hwh⟩
  refine ⟨A', c', rfl, ?_⟩
  rintro L' ⟨k, hk, rfl⟩
  have hlen : (us.take i ++ u :: us.drop i).length = us.length + 1 := by rw [List.length_append, List.length_cons, List.length_take, List.length_drop]; omega
  rw [← hlen] at own2
  refine H.mod k _ _ hk (fun x hx => ?_) (by exact own_base own2.1 (Nat.zero_le _)) (fun x hx => (own2.1.lt x hx).2) hc.os hc.tape hc.output hc.size (fun x hx hx' => hc.block x hx ?_)
  · have h1 := own2.lt x hx
    rcases hwh with ⟨h2, h3⟩ | h2
    · left
      cases A with
      | none => have e1 : loA none w.heap.size = w.heap.size := rfl; have e2 : hiA none w.heap.size = w.heap.size := rfl; omega
      | some a =>
        have e1 : loA (some a) w.heap.size = a.block := rfl
        have e2 : hiA (some a) w.heap.size = a.block + 1 := rfl
        have e3 : a.block = x := by omega
        subst e3
        rfl
    · right; omega
  · cases A with
    | none => exact .inl hx
    | some a =>
      have hx2 : ¬ (some a.block = some x) := hx'
      simp at hx2
      show x < a.block ∨ a.block + 1 ≤ x
      omega
theorem cloneFarU_hp (A : Option Addr) (n c : Nat) (us : List User) (fail made : Int) (w : World) (hr : Rd w w.heap.size 2 A n c (us.flatMap encUser)) (hn : us.length = n) (hb20 : n ≤ 1048576) :
    Calls Tryd.prog 31 #[.agg #[.slice A n c, .int .i64 fail, .int .i64 made]] w fun e w' => ∃ A' c', e = .returned (.agg #[.slice A' us.length c', .int .i64 fail, .int .i64 made]) ∧ Hp w w' [rUser A' c' us] := by
  subst hn
  exact (cloneFar_any A us.length c us fail made w hr rfl hb20).mono fun e w' ⟨A', c', he, h, hb⟩ => ⟨A', c', he, Hp.ofOwn hb h (Nat.le_refl _)⟩
theorem l11CopyU_hp (A : Option Addr) (n c : Nat) (us : List User) (fail made : Int) (w : World) (hr : Rd w w.heap.size 2 A n c (us.flatMap encUser)) (hn : us.length = n) (hb20 : n ≤ 1048576) :
    Calls Tryd.prog 42 #[.agg #[.slice A n c, .int .i64 fail, .int .i64 made]] w fun e w' => ∃ A' c', e = .returned (.agg #[.slice A' us.length c', .int .i64 fail, .int .i64 made]) ∧ Hp w w' [rUser A' c' us] := by
  subst hn
  exact (l11Copy_any A us.length c us fail made w hr rfl hb20).mono fun e w' ⟨A', c', he, h, hb⟩ => ⟨A', c', he, Hp.ofOwn hb h (Nat.le_refl _)⟩
end Go.Proofs.YtaaloiloklnbiaaDoor

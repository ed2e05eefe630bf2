/- FnExactMakeUser: the walk. No condition. -/
import Derived.Test.YtaaloiloklnbiaaDoorLhMakeUser
import Derived.Test.YtaaloiloklnbiaaDoorMakeJ
import Derived.Test.YtaaloiloklnbiaaDoorMakeK
import Derived.Test.YtaaloiloklnbiaaDoorFarF
namespace Go.Proofs.YtaaloiloklnbiaaDoor
open Go.RowKit
theorem makeU_len (us : List User) (fail made : Int) (nm pf : ByteArray) (ttl lim key : Int) (h : us.length ≤ 1048576) : (makeU us fail made nm pf ttl lim key).us.length ≤ 1048576 := by
  unfold makeU
  split
  · split
    · split
      · exact h
      · split
        · exact h
        · split
          · exact h
          · rename_i hq _ _ _ _
            have h120 : us.length ≤ 120 := by simp [farOk, inR] at hq; omega
            have hb : bsAt (cfU (nameF nm pf ttl lim (made + 1))) us ≤ us.length := List.countP_le_length
            show (us.take _ ++ _ :: us.drop _).length ≤ _
            rw [List.length_append, List.length_cons, List.length_take, List.length_drop]; omega
    · exact h
  · exact h
theorem lawMakeUser (A : Option Addr) (n c : Nat) (us : List User) (fail made : Int) (nm pf : ByteArray) (ttl lim key : Int) (w : World) (hr : Rd w w.heap.size 2 A n c (us.flatMap encUser)) (hn : us.length = n) (hf : ∀ u ∈ us, UserFits u) (hfi : (Lit.int .i64 fail).wf = true) (hma : (Lit.int .i64 made).wf = true) (hs1 : nm.size ≤ maxLen) (hs2 : pf.size ≤ maxLen) (ht : tabOk w) :
    Calls Tryd.prog 4 #[.agg #[.slice A n c, .int .i64 fail, .int .i64 made], .agg #[.string nm, .string pf, .int .i64 ttl, .int .i64 lim], .int .i64 key] w fun e w' => e = .returned (.bool true) ∧ Below w.heap.size w w' := by
  subst hn
  have hl := makeU_len us fail made nm pf ttl lim key
  obtain ⟨⟨rs, rf, rm, ⟨u1, u2⟩, rc⟩, hd⟩ : ∃ r, makeU us fail made nm pf ttl lim key = r := ⟨_, rfl⟩
  rw [hd] at hl
  refine fnExactMakeUser_law A c us fail made nm pf ttl lim key rs rf rm u1 u2 rc hl w hr hf hs1 hs2 ht ?_ ?_
  · exact fun W a0 d0 h0 b0 hm => specMakeUser_hp a0 us.length d0 us fail made nm pf ttl lim key _ hd W h0 rfl b0 (fun u hu => (hf u hu).name) (wf64 hfi) (wf64 hma) hs1 hs2
  · exact fun W a0 d0 h0 b0 hm => implMakeUser_hp a0 us.length d0 us fail made nm pf ttl lim key _ hd W h0 rfl b0 (fun u hu => (hf u hu).name) hs1 hs2 hm
end Go.Proofs.YtaaloiloklnbiaaDoor

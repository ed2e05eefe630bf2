/- FnExactKillCert: the walk. No condition. -/
import Derived.Test.YtjddcbkpabeioaaDoorLhKillCert
import Derived.Test.YtjddcbkpabeioaaDoorKillA
import Derived.Test.YtjddcbkpabeioaaDoorKillB
namespace Go.Proofs.YtjddcbkpabeioaaDoor
open Go.RowKit
theorem killU_small (cs : List Cert) (ks : List CertKey) (ds : List Int) (x : Int) (h : ds.length ≤ 1048576) : (killU cs ks ds x).1.length ≤ 1048576 := by
  unfold killU
  split
  · rename_i hq
    have h60 : ds.length ≤ 60 := by rw [Bool.and_eq_true] at hq; exact (pile_iff hq.1).2.2.1
    split
    · exact h
    · split
      · exact h
      · rw [insAt_len (posD_le _ _)]; omega
  · exact h
theorem lawKillCert (A : Option Addr) (n c : Nat) (us : List Cert) (B : Option Addr) (bn bc : Nat) (bus : List CertKey) (E : Option Addr) (en ec : Nat) (eus : List Int) (x : Int) (w : World) (hr : Rd w w.heap.size 8 A n c (us.flatMap encCert)) (hn : us.length = n) (hf : ∀ u ∈ us, CertFits u) (hrb : Rd w w.heap.size 2 B bn bc (bus.flatMap encCertKey)) (hnb : bus.length = bn) (hre : Rd w w.heap.size 1 E en ec (eus.flatMap encInt)) (hne : eus.length = en) (hml : mlOk w) :
    Calls Tryd.prog 10 #[pileV A n c B bn bc E en ec, .int .i64 x] w fun e w' => e = .returned (.bool true) ∧ Below w.heap.size w w' := by
  subst hn hnb hne
  have hl := killU_small us bus eus x
  obtain ⟨⟨rd, rb⟩, hd⟩ : ∃ r, killU us bus eus x = r := ⟨_, rfl⟩
  rw [hd] at hl
  refine fnExactKillCert_law A c us B bc bus E ec eus x us bus rd rb (fun h1 h2 h3 => h1) (fun h1 h2 h3 => h2) (fun h1 h2 h3 => hl h3) w hr hf hrb hre hml ?_ ?_
  · exact fun W a0 d0 a1 d1 a2 d2 h0 b0 h1 b1 h2 b2 hm => specKill_hp a0 us.length d0 us a1 bus.length d1 bus a2 eus.length d2 eus x rd rb W hd h0 rfl b0 hf h1 rfl b1 h2 rfl b2
  · exact fun W a0 d0 a1 d1 a2 d2 h0 b0 h1 b1 h2 b2 hm => implKill_hp a0 us.length d0 us a1 bus.length d1 bus a2 eus.length d2 eus x rd rb W hd h0 rfl b0 hf h1 rfl b1 h2 rfl b2 hm
end Go.Proofs.YtjddcbkpabeioaaDoor

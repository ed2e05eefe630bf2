/- FnExactPruneDead: the walk. No condition. -/
import Derived.Test.YtjddcbkpabeioaaDoorLhPruneDead
import Derived.Test.YtjddcbkpabeioaaDoorPruneA
import Derived.Test.YtjddcbkpabeioaaDoorPruneB
namespace Go.Proofs.YtjddcbkpabeioaaDoor
open Go.RowKit
theorem lawPruneDead (A : Option Addr) (n c : Nat) (us : List Cert) (B : Option Addr) (bn bc : Nat) (bus : List CertKey) (E : Option Addr) (en ec : Nat) (eus : List Int) (now : Int) (w : World) (hr : Rd w w.heap.size 8 A n c (us.flatMap encCert)) (hn : us.length = n) (hf : ∀ u ∈ us, CertFits u) (hrb : Rd w w.heap.size 2 B bn bc (bus.flatMap encCertKey)) (hnb : bus.length = bn) (hre : Rd w w.heap.size 1 E en ec (eus.flatMap encInt)) (hne : eus.length = en) (hml : mlOk w) :
    Calls Tryd.prog 7 #[pileV A n c B bn bc E en ec, .int .i64 now] w fun e w' => e = .returned (.bool true) ∧ Below w.heap.size w w' := by
  subst hn hnb hne
  obtain ⟨rp, hd⟩ : ∃ r, pruneU us bus eus now = r := ⟨_, rfl⟩
  have hl := pruneU_len us bus eus now
  rw [hd] at hl
  refine fnExactPruneDead_law A c us B bc bus E ec eus now rp.cs rp.ks rp.ds rp.n (fun h1 h2 h3 => (hl h1 h2 h3).1) (fun h1 h2 h3 => (hl h1 h2 h3).2.1) (fun h1 h2 h3 => (hl h1 h2 h3).2.2) w hr hf hrb hre hml ?_ ?_
  · exact fun W a0 d0 a1 d1 a2 d2 h0 b0 h1 b1 h2 b2 hm => specPrune_hp a0 us.length d0 us a1 bus.length d1 bus a2 eus.length d2 eus now rp W hd h0 rfl b0 hf h1 rfl b1 h2 rfl b2
  · exact fun W a0 d0 a1 d1 a2 d2 h0 b0 h1 b1 h2 b2 hm => implPrune_hp a0 us.length d0 us a1 bus.length d1 bus a2 eus.length d2 eus now rp W hd h0 rfl b0 hf h1 rfl b1 h2 rfl b2 hm
end Go.Proofs.YtjddcbkpabeioaaDoor

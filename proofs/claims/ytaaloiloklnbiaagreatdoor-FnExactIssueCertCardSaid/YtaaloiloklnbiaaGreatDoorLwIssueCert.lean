/- FnExactIssueCert: the walk. No condition. -/
import Derived.Test.YtaaloiloklnbiaaGreatDoorLhIssueCert
import Derived.Test.YtaaloiloklnbiaaGreatDoorIssueB
import Derived.Test.YtaaloiloklnbiaaGreatDoorIssueD
namespace Go.Proofs.YtaaloiloklnbiaaGreatDoor
open Go.RowKit
theorem lawIssueCert (A : Option Addr) (n c : Nat) (us : List Cert) (B : Option Addr) (bn bc : Nat) (bus : List CertKey) (E : Option Addr) (en ec : Nat) (eus : List Int) (ct : Cert) (key : Int) (w : World) (hr : Rd w w.heap.size 8 A n c (us.flatMap encCert)) (hn : us.length = n) (hf : ∀ u ∈ us, CertFits u) (hrb : Rd w w.heap.size 2 B bn bc (bus.flatMap encCertKey)) (hnb : bus.length = bn) (hre : Rd w w.heap.size 1 E en ec (eus.flatMap encInt)) (hne : eus.length = en) (hco : ct.owner.size ≤ maxLen) (hml : mlOk w) :
    Calls Tryz.prog 4 #[pileV A n c B bn bc E en ec, valCert ct, .int .i64 key] w fun e w' => e = .returned (.bool true) ∧ Below w.heap.size w w' := by
  subst hn hnb hne
  have hl := issueU_len us bus eus ct key
  obtain ⟨⟨rc, rk, rn⟩, hd⟩ : ∃ r, issueU us bus eus ct key = r := ⟨_, rfl⟩
  rw [hd] at hl
  obtain ⟨ser, owner, iss, from_, to_, ca, depth, mark⟩ := ct
  refine fnExactIssueCert_law A c us B bc bus E ec eus ser owner iss from_ to_ ca depth mark key rc rk eus rn (fun h1 h2 h3 => (hl h1 h2).1) (fun h1 h2 h3 => (hl h1 h2).2) (fun h1 h2 h3 => h3) w hr hf hrb hre hco hml ?_ ?_
  · exact fun W a0 d0 a1 d1 a2 d2 h0 b0 h1 b1 h2 b2 hm => specIssue_hp a0 us.length d0 us a1 bus.length d1 bus a2 eus.length d2 eus _ key _ W hd h0 rfl b0 hf h1 rfl b1 h2 rfl b2 hco
  · exact fun W a0 d0 a1 d1 a2 d2 h0 b0 h1 b1 h2 b2 hm => implIssue_hp a0 us.length d0 us a1 bus.length d1 bus a2 eus.length d2 eus _ key _ W hd h0 rfl b0 hf h1 rfl b1 h2 rfl b2 hco hm
end Go.Proofs.YtaaloiloklnbiaaGreatDoor

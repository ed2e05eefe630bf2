/- The issue of a certificate: the reference's: where it issues one. No condition. -/
import Derived.Test.YtlblkpcjknjijaaGreatDoorIssueP
import Derived.Test.YtlblkpcjknjijaaGreatDoorCertM
import Derived.Test.YtlblkpcjknjijaaGreatDoorM4
import Derived.Test.YtlblkpcjknjijaaGreatDoorPileC
import Derived.Test.YtlblkpcjknjijaaGreatDoorPileD
import Derived.Test.YtlblkpcjknjijaaGreatDoorHasInt
import Derived.Deep.DeepCutAuto
set_option linter.unusedVariables false
set_option linter.unusedSimpArgs false
namespace Go.Proofs.YtlblkpcjknjijaaGreatDoor
open Go.RowKit
set_option linter.unusedVariables false
set_option linter.unusedSimpArgs false
theorem insAt_over {α : Type} {i k : Nat} {x : α} {l : List α} (hk : l.length ≤ k) (h : i < k) : insAt i x l (k + 1) = insAt i x l k := by
  rw [insAt, insAt, if_neg (by omega), if_neg (by omega), show (l.drop i).take (k + 1 - i) = l.drop i from List.take_of_length_le (by rw [List.length_drop]; omega), show (l.drop i).take (k - i) = l.drop i from List.take_of_length_le (by rw [List.length_drop]; omega)]
theorem insAt_out {α : Type} {i k : Nat} {x : α} {l : List α} (hk : l.length = k) (h : k = i) : insAt i x l (k + 1) = insAt i x l k ++ [x] := by
  subst h; subst hk
  rw [insAt, insAt, if_neg (by omega), if_pos (Nat.le_refl _), List.drop_of_length_le (Nat.le_refl _)]
  simp
theorem insAt_fin {α : Type} {i k : Nat} {x : α} {l : List α} (hk : l.length < k) (h : i < k) : insAt i x l k = l.take i ++ x :: l.drop i := by
  rw [insAt, if_neg (by omega), show (l.drop i).take (k - i) = l.drop i from List.take_of_length_le (by rw [List.length_drop]; omega)]
set_option maxHeartbeats 64000000 in
set_option maxRecDepth 10000 in
theorem specIssueGood_hp (A0 : Option Addr) (c0 : Nat) (cs : List Cert) (A1 : Option Addr) (c1 : Nat) (ks : List CertKey) (A2 : Option Addr) (c2 : Nat) (ds : List Int) (ser : Int) (owner : ByteArray) (iss from_ to_ : Int) (ca : Bool) (depth mark : Int) (key : Int) (r : IssR) (w : World) (bk mf : Int) (pz : Nat) (hr0 : Rd w w.heap.size 8 A0 cs.length c0 (cs.flatMap encCert)) (hb0 : cs.length ≤ 1048576) (hsz : ∀ u ∈ cs, CertFits u) (hr1 : Rd w w.heap.size 2 A1 ks.length c1 (ks.flatMap encCertKey)) (hb1 : ks.length ≤ 1048576) (hr2 : Rd w w.heap.size 1 A2 ds.length c2 (ds.flatMap encInt)) (hb2 : ds.length ≤ 1048576) (hco : owner.size ≤ maxLen) (h1 : pileOk cs ks ds = true) (hcok : certOk ⟨ser, owner, iss, from_, to_, ca, depth, mark⟩ = true) (hk : inR key 0 1099511627776 = true) (hix : ixP (hasSer ser) cs 0 = -1) (h60i : ¬ (cs.length : Int) = 60) (hpl : pz ≤ cs.length) (hp2 : ∀ t (ht : t < cs.length), t < pz → cs[t].ser < ser) (hp3 : ∀ t (ht : t < cs.length), pz ≤ t → ser < cs[t].ser) (hE : r = ⟨cs.take pz ++ (⟨ser, owner, iss, from_, to_, ca, depth, mf⟩ : Cert) :: cs.drop pz, ks.take pz ++ (⟨ser, key⟩ : CertKey) :: ks.drop pz, 0⟩) (hup : iss = 0 ∧ key = bk ∨ ¬ iss = 0 ∧ ∃ (i : Nat) (hi : i < cs.length) (hki : i < ks.length), ixP (hasSer iss) cs 0 = (i : Int) ∧ ks[i].key = bk ∧ aboveC cs[i] ⟨ser, owner, iss, from_, to_, ca, depth, mark⟩ = true ∧ underF cs[i].owner owner = true ∧ ¬ from_ < cs[i].from_ ∧ ¬ cs[i].to_ < to_) (hmf : markF ⟨ser, owner, iss, from_, to_, ca, depth, mark⟩ bk = mf) :
    Calls Tryz.prog 7 #[pileV A0 cs.length c0 A1 ks.length c1 A2 ds.length c2, .agg #[.int .i64 ser, .string owner, .int .i64 iss, .int .i64 from_, .int .i64 to_, .bool ca, .int .i64 depth, .int .i64 mark], .int .i64 key] w fun e w' => ∃ B0 d0 B1 d1 B2 d2, e = .returned (.tuple #[pileV B0 r.cs.length d0 B1 r.ks.length d1 B2 ds.length d2, .int .i64 r.n]) ∧ Hp w w' [rCert B0 d0 r.cs, rCertKey B1 d1 r.ks, rInt B2 d2 ds] := by
  obtain ⟨i0, hi0, hz0, hz1, hz2⟩ := info_parts Tryz.infoCert
  obtain ⟨j0, hj0, hy0, hy1, hy2⟩ := info_parts Tryz.infoCertKey
  have hc0 := hr0.2.1
  have hm0 := hr0.2.2.1
  have hc1 := hr1.2.1
  have hm1 := hr1.2.2.1
  unfold maxLen at hm0 hm1
  have H := Hp.nil w
  obtain ⟨q60, hkl, -, -, -⟩ := pile_iff h1
  have HKL := Lib.hid hkl; clear hkl
  have HE := Lib.hid hE; clear hE
  have HP2 := Lib.hid hp2
  have HP3 := Lib.hid hp3
  clear hp2 hp3
  have HCO : Hid (∀ W, Calls Tryz.prog 21 #[.agg #[.int .i64 ser, .string owner, .int .i64 iss, .int .i64 from_, .int .i64 to_, .bool ca, .int .i64 depth, .int .i64 mark]] W fun e w' => e = .returned (.bool (certOk ⟨ser, owner, iss, from_, to_, ca, depth, mark⟩)) ∧ Below W.heap.size W w') := fun W => specCertOk_any ⟨ser, owner, iss, from_, to_, ca, depth, mark⟩ W hco
  have HMF : Hid (∀ W, Calls Tryz.prog 26 #[.agg #[.int .i64 ser, .string owner, .int .i64 iss, .int .i64 from_, .int .i64 to_, .bool ca, .int .i64 depth, .int .i64 mark], .int .i64 bk] W fun e w' => e = .returned (.int .i64 mf) ∧ Below W.heap.size W w') := fun W => by have h := specMarkOf_any ⟨ser, owner, iss, from_, to_, ca, depth, mark⟩ bk W hco; rw [hmf] at h; exact h
  clear hmf
  rw [hcok] at HCO
  have hcok : True := trivial
  have HUP := Lib.hid hup; clear hup
  go_enter Tryz.func7, Tryz.ntmps7
  go_upto_if 45 with (first | (go_at_call 20; refine (specPileOk_any A0 cs.length c0 cs A1 ks.length c1 ks A2 ds.length c2 ds _ (hr0.grow (Hp.b (by repeat (first | (with_reducible exact H) | (with_reducible apply Hp.alloc) | (with_reducible apply Hp.set) | (with_reducible apply Hp.drew) | (with_reducible apply Hp.drewN) | (with_reducible apply Hp.bytesW) | (with_reducible exact Upd.here) | (with_reducible exact Upd.hereR) | (with_reducible apply Upd.there) | (with_reducible apply Sz.alloc) | (with_reducible apply Sz.set) | (with_reducible apply Sz.drew) | (with_reducible apply Sz.drewN) | (with_reducible apply Sz.bytesW) | (with_reducible assumption) | (with_reducible exact Sz.base _))))) rfl hsz (hr1.grow (Hp.b (by repeat (first | (with_reducible exact H) | (with_reducible apply Hp.alloc) | (with_reducible apply Hp.set) | (with_reducible apply Hp.drew) | (with_reducible apply Hp.drewN) | (with_reducible apply Hp.bytesW) | (with_reducible exact Upd.here) | (with_reducible exact Upd.hereR) | (with_reducible apply Upd.there) | (with_reducible apply Sz.alloc) | (with_reducible apply Sz.set) | (with_reducible apply Sz.drew) | (with_reducible apply Sz.drewN) | (with_reducible apply Sz.bytesW) | (with_reducible assumption) | (with_reducible exact Sz.base _))))) rfl (hr2.grow (Hp.b (by repeat (first | (with_reducible exact H) | (with_reducible apply Hp.alloc) | (with_reducible apply Hp.set) | (with_reducible apply Hp.drew) | (with_reducible apply Hp.drewN) | (with_reducible apply Hp.bytesW) | (with_reducible exact Upd.here) | (with_reducible exact Upd.hereR) | (with_reducible apply Upd.there) | (with_reducible apply Sz.alloc) | (with_reducible apply Sz.set) | (with_reducible apply Sz.drew) | (with_reducible apply Sz.drewN) | (with_reducible apply Sz.bytesW) | (with_reducible assumption) | (with_reducible exact Sz.base _))))) rfl).mono ?_; rintro e w1 ⟨rfl, q1⟩; rw [h1]; replace H := Hp.step (by repeat (first | (with_reducible exact H) | (with_reducible apply Hp.alloc) | (with_reducible apply Hp.set) | (with_reducible apply Hp.drew) | (with_reducible apply Hp.drewN) | (with_reducible apply Hp.bytesW) | (with_reducible exact Upd.here) | (with_reducible exact Upd.hereR) | (with_reducible apply Upd.there) | (with_reducible apply Sz.alloc) | (with_reducible apply Sz.set) | (with_reducible apply Sz.drew) | (with_reducible apply Sz.drewN) | (with_reducible apply Sz.bytesW) | (with_reducible assumption) | (with_reducible exact Sz.base _))) q1; (try simp only [List.set_cons_zero, List.set_cons_succ, List.cons_append, List.nil_append] at H); clear q1; have F := H.facts; simp only [Facts, NeF, box, row, reg, cellsF, rCert, rCertKey, rInt, ne_eq, true_and, and_true, Nat.reduceAdd, Nat.zero_add] at F) | (go_at_call 21; refine (HCO.out _).mono ?_; rintro e w2 ⟨rfl, q1⟩; (try rw [hcok]); replace H := Hp.step (by repeat (first | (with_reducible exact H) | (with_reducible apply Hp.alloc) | (with_reducible apply Hp.set) | (with_reducible apply Hp.drew) | (with_reducible apply Hp.drewN) | (with_reducible apply Hp.bytesW) | (with_reducible exact Upd.here) | (with_reducible exact Upd.hereR) | (with_reducible apply Upd.there) | (with_reducible apply Sz.alloc) | (with_reducible apply Sz.set) | (with_reducible apply Sz.drew) | (with_reducible apply Sz.drewN) | (with_reducible apply Sz.bytesW) | (with_reducible assumption) | (with_reducible exact Sz.base _))) q1; (try simp only [List.set_cons_zero, List.set_cons_succ, List.cons_append, List.nil_append] at H); clear q1 F; have F := H.facts; simp only [Facts, NeF, box, row, reg, cellsF, rCert, rCertKey, rInt, ne_eq, true_and, and_true, Nat.reduceAdd, Nat.zero_add] at F) | (go_at_call 22; refine (l04Key_any _ _).mono ?_; rintro e w' ⟨rfl, rfl⟩; rw [hk]) | (go_at_call 23; refine (l12At_any A0 cs.length c0 cs A1 ks.length c1 A2 ds.length c2 ser _ (hr0.grow (Hp.b (by repeat (first | (with_reducible exact H) | (with_reducible apply Hp.alloc) | (with_reducible apply Hp.set) | (with_reducible apply Hp.drew) | (with_reducible apply Hp.drewN) | (with_reducible apply Hp.bytesW) | (with_reducible exact Upd.here) | (with_reducible exact Upd.hereR) | (with_reducible apply Upd.there) | (with_reducible apply Sz.alloc) | (with_reducible apply Sz.set) | (with_reducible apply Sz.drew) | (with_reducible apply Sz.drewN) | (with_reducible apply Sz.bytesW) | (with_reducible assumption) | (with_reducible exact Sz.base _))))) rfl).mono ?_; rintro e w4 ⟨rfl, q1⟩; rw [hix]; replace H := Hp.step (by repeat (first | (with_reducible exact H) | (with_reducible apply Hp.alloc) | (with_reducible apply Hp.set) | (with_reducible apply Hp.drew) | (with_reducible apply Hp.drewN) | (with_reducible apply Hp.bytesW) | (with_reducible exact Upd.here) | (with_reducible exact Upd.hereR) | (with_reducible apply Upd.there) | (with_reducible apply Sz.alloc) | (with_reducible apply Sz.set) | (with_reducible apply Sz.drew) | (with_reducible apply Sz.drewN) | (with_reducible apply Sz.bytesW) | (with_reducible assumption) | (with_reducible exact Sz.base _))) q1; (try simp only [List.set_cons_zero, List.set_cons_succ, List.cons_append, List.nil_append] at H); clear q1 F; have F := H.facts; simp only [Facts, NeF, box, row, reg, cellsF, rCert, rCertKey, rInt, ne_eq, true_and, and_true, Nat.reduceAdd, Nat.zero_add] at F))
  go_cut [8] (fun s8 wc => s8 = .int .i64 bk ∧ Hp w wc [box (w.heap.size + 1 + 1) 28 [.slice none 0 0, .slice none 0 0, .slice none 0 0], box (w.heap.size + 1) 30 [.int .i64 ser, .string owner, .int .i64 iss, .int .i64 from_, .int .i64 to_, .bool ca, .int .i64 depth, .int .i64 mark], box w.heap.size 28 [.slice A0 cs.length c0, .slice A1 ks.length c1, .slice A2 ds.length c2]])
  case first =>
    clear HE HP2 HP3 HMF HCO hcok
    rcases HUP.out with ⟨rfl, rfl⟩ | ⟨hiss, i, hi, hki, hix2, hky, hab, hud, hf, ht⟩
    · go_wp2_with fail
      go_meet
      exact ⟨rfl, (by refine Hp.sel (by repeat (first | (with_reducible exact H) | (with_reducible apply Hp.alloc) | (with_reducible apply Hp.set) | (with_reducible apply Hp.drew) | (with_reducible apply Hp.drewN) | (with_reducible apply Hp.bytesW) | (with_reducible exact Upd.here) | (with_reducible exact Upd.hereR) | (with_reducible apply Upd.there) | (with_reducible apply Sz.alloc) | (with_reducible apply Sz.set) | (with_reducible apply Sz.drew) | (with_reducible apply Sz.drewN) | (with_reducible apply Sz.bytesW) | (with_reducible assumption) | (with_reducible exact Sz.base _))) ?_; (try simp only [List.set_cons_zero, List.set_cons_succ]); exact (by repeat (first | (with_reducible exact Sel.nil) | (with_reducible apply Sel.cons) | (with_reducible exact Del.here) | (with_reducible apply Del.there))))⟩
    have hib : (iss == 0) = false := beq_eq_false_iff_ne.2 hiss
    have hic : (iss != 0) = true := by simpa using hiss
    have hid : decide (iss = 0) = false := decide_eq_false hiss
    obtain ⟨b, off, rfl, hb⟩ := Rd.atC encCert_len hr0 rfl (by omega)
    obtain ⟨b1, off1, rfl, hbk⟩ := Rd.atC encCertKey_len hr1 rfl (by omega)
    have hcs : ∀ (W : World) (L : List Ent), Hp w W L → _ := fun W L h => Rd.certAt hr0 rfl (k := i) hi rfl W h.b
    have HCS := Lib.hid hcs; clear hcs
    have hks : ∀ (W : World) (L : List Ent), Hp w W L → _ := fun W L h => Rd.keyAt hr1 rfl (k := i) hki rfl W h.b
    rw [hky] at hks
    have HKS := Lib.hid hks; clear hks hky
    have hx0 : (0 : Int) ≤ (i : Int) := by omega
    have hx1 : (i : Int) < (cs.length : Int) := by omega
    have hx2 : (i : Int) < (ks.length : Int) := by omega
    have hx3 : ¬ (i : Int) < 0 := by omega
    have hsow : cs[i].owner.size ≤ maxLen := hsz _ (List.getElem_mem _)
    generalize cs[i] = up at *
    obtain ⟨ser2, owner2, iss2, from2, to2, ca2, depth2, mark2⟩ := up
    dsimp only at hud hf ht hsow
    obtain ⟨rfl, hcd⟩ : ca2 = true ∧ (ca = false ∨ depth < depth2) := by simpa [aboveC] using hab
    clear hab
    cases ca with
    | false =>
      go_wp2_with (first | (go_at_call 23; refine (l12At_any (some ⟨b, off, none⟩) cs.length c0 cs (some ⟨b1, off1, none⟩) ks.length c1 A2 ds.length c2 iss _ (hr0.grow (Hp.b (by repeat (first | (with_reducible exact H) | (with_reducible apply Hp.alloc) | (with_reducible apply Hp.set) | (with_reducible apply Hp.drew) | (with_reducible apply Hp.drewN) | (with_reducible apply Hp.bytesW) | (with_reducible exact Upd.here) | (with_reducible exact Upd.hereR) | (with_reducible apply Upd.there) | (with_reducible apply Sz.alloc) | (with_reducible apply Sz.set) | (with_reducible apply Sz.drew) | (with_reducible apply Sz.drewN) | (with_reducible apply Sz.bytesW) | (with_reducible assumption) | (with_reducible exact Sz.base _))))) rfl).mono ?_; rintro e w5 ⟨rfl, q1⟩; rw [hix2]; replace H := Hp.step (by repeat (first | (with_reducible exact H) | (with_reducible apply Hp.alloc) | (with_reducible apply Hp.set) | (with_reducible apply Hp.drew) | (with_reducible apply Hp.drewN) | (with_reducible apply Hp.bytesW) | (with_reducible exact Upd.here) | (with_reducible exact Upd.hereR) | (with_reducible apply Upd.there) | (with_reducible apply Sz.alloc) | (with_reducible apply Sz.set) | (with_reducible apply Sz.drew) | (with_reducible apply Sz.drewN) | (with_reducible apply Sz.bytesW) | (with_reducible assumption) | (with_reducible exact Sz.base _))) q1; (try simp only [List.set_cons_zero, List.set_cons_succ, List.cons_append, List.nil_append] at H); clear q1 F; have F := H.facts; simp only [Facts, NeF, box, row, reg, cellsF, rCert, rCertKey, rInt, ne_eq, true_and, and_true, Nat.reduceAdd, Nat.zero_add] at F; obtain ⟨e0, e1, e2, e3, e4, e5, e6, e7⟩ := HCS.out _ _ H; have hbw5 : b < w5.heap.size := Nat.lt_of_lt_of_le hb H.b.size; have hbe5 : ¬ b = w5.heap.size ∧ ¬ w5.heap.size = b := (by omega)) | (go_at_call 25; refine (specUnder_any owner2 owner _ hsow hco).mono ?_; rintro e w6 ⟨rfl, q1⟩; rw [hud]; replace H := Hp.step (by repeat (first | (with_reducible exact H) | (with_reducible apply Hp.alloc) | (with_reducible apply Hp.set) | (with_reducible apply Hp.drew) | (with_reducible apply Hp.drewN) | (with_reducible apply Hp.bytesW) | (with_reducible exact Upd.here) | (with_reducible exact Upd.hereR) | (with_reducible apply Upd.there) | (with_reducible apply Sz.alloc) | (with_reducible apply Sz.set) | (with_reducible apply Sz.drew) | (with_reducible apply Sz.drewN) | (with_reducible apply Sz.bytesW) | (with_reducible assumption) | (with_reducible exact Sz.base _))) q1; (try simp only [List.set_cons_zero, List.set_cons_succ, List.cons_append, List.nil_append] at H); clear q1 F e0 e1 e2 e3 e4 e5 e6 e7; have F := H.facts; simp only [Facts, NeF, box, row, reg, cellsF, rCert, rCertKey, rInt, ne_eq, true_and, and_true, Nat.reduceAdd, Nat.zero_add] at F; obtain ⟨q0, q1⟩ := HKS.out _ _ H))
      go_meet
      exact ⟨rfl, (by refine Hp.sel (by repeat (first | (with_reducible exact H) | (with_reducible apply Hp.alloc) | (with_reducible apply Hp.set) | (with_reducible apply Hp.drew) | (with_reducible apply Hp.drewN) | (with_reducible apply Hp.bytesW) | (with_reducible exact Upd.here) | (with_reducible exact Upd.hereR) | (with_reducible apply Upd.there) | (with_reducible apply Sz.alloc) | (with_reducible apply Sz.set) | (with_reducible apply Sz.drew) | (with_reducible apply Sz.drewN) | (with_reducible apply Sz.bytesW) | (with_reducible assumption) | (with_reducible exact Sz.base _))) ?_; (try simp only [List.set_cons_zero, List.set_cons_succ]); exact (by repeat (first | (with_reducible exact Sel.nil) | (with_reducible apply Sel.cons) | (with_reducible exact Del.here) | (with_reducible apply Del.there))))⟩
    | true =>
      have hcd2 : depth < depth2 := hcd.resolve_left (by decide)
      have hcd3 : decide (depth2 ≤ depth) = false := decide_eq_false (by omega)
      go_wp2_with (first | (go_at_call 23; refine (l12At_any (some ⟨b, off, none⟩) cs.length c0 cs (some ⟨b1, off1, none⟩) ks.length c1 A2 ds.length c2 iss _ (hr0.grow (Hp.b (by repeat (first | (with_reducible exact H) | (with_reducible apply Hp.alloc) | (with_reducible apply Hp.set) | (with_reducible apply Hp.drew) | (with_reducible apply Hp.drewN) | (with_reducible apply Hp.bytesW) | (with_reducible exact Upd.here) | (with_reducible exact Upd.hereR) | (with_reducible apply Upd.there) | (with_reducible apply Sz.alloc) | (with_reducible apply Sz.set) | (with_reducible apply Sz.drew) | (with_reducible apply Sz.drewN) | (with_reducible apply Sz.bytesW) | (with_reducible assumption) | (with_reducible exact Sz.base _))))) rfl).mono ?_; rintro e w5 ⟨rfl, q1⟩; rw [hix2]; replace H := Hp.step (by repeat (first | (with_reducible exact H) | (with_reducible apply Hp.alloc) | (with_reducible apply Hp.set) | (with_reducible apply Hp.drew) | (with_reducible apply Hp.drewN) | (with_reducible apply Hp.bytesW) | (with_reducible exact Upd.here) | (with_reducible exact Upd.hereR) | (with_reducible apply Upd.there) | (with_reducible apply Sz.alloc) | (with_reducible apply Sz.set) | (with_reducible apply Sz.drew) | (with_reducible apply Sz.drewN) | (with_reducible apply Sz.bytesW) | (with_reducible assumption) | (with_reducible exact Sz.base _))) q1; (try simp only [List.set_cons_zero, List.set_cons_succ, List.cons_append, List.nil_append] at H); clear q1 F; have F := H.facts; simp only [Facts, NeF, box, row, reg, cellsF, rCert, rCertKey, rInt, ne_eq, true_and, and_true, Nat.reduceAdd, Nat.zero_add] at F; obtain ⟨e0, e1, e2, e3, e4, e5, e6, e7⟩ := HCS.out _ _ H; have hbw5 : b < w5.heap.size := Nat.lt_of_lt_of_le hb H.b.size; have hbe5 : ¬ b = w5.heap.size ∧ ¬ w5.heap.size = b := (by omega)) | (go_at_call 25; refine (specUnder_any owner2 owner _ hsow hco).mono ?_; rintro e w6 ⟨rfl, q1⟩; rw [hud]; replace H := Hp.step (by repeat (first | (with_reducible exact H) | (with_reducible apply Hp.alloc) | (with_reducible apply Hp.set) | (with_reducible apply Hp.drew) | (with_reducible apply Hp.drewN) | (with_reducible apply Hp.bytesW) | (with_reducible exact Upd.here) | (with_reducible exact Upd.hereR) | (with_reducible apply Upd.there) | (with_reducible apply Sz.alloc) | (with_reducible apply Sz.set) | (with_reducible apply Sz.drew) | (with_reducible apply Sz.drewN) | (with_reducible apply Sz.bytesW) | (with_reducible assumption) | (with_reducible exact Sz.base _))) q1; (try simp only [List.set_cons_zero, List.set_cons_succ, List.cons_append, List.nil_append] at H); clear q1 F e0 e1 e2 e3 e4 e5 e6 e7; have F := H.facts; simp only [Facts, NeF, box, row, reg, cellsF, rCert, rCertKey, rInt, ne_eq, true_and, and_true, Nat.reduceAdd, Nat.zero_add] at F; obtain ⟨q0, q1⟩ := HKS.out _ _ H))
      go_meet
      exact ⟨rfl, (by refine Hp.sel (by repeat (first | (with_reducible exact H) | (with_reducible apply Hp.alloc) | (with_reducible apply Hp.set) | (with_reducible apply Hp.drew) | (with_reducible apply Hp.drewN) | (with_reducible apply Hp.bytesW) | (with_reducible exact Upd.here) | (with_reducible exact Upd.hereR) | (with_reducible apply Upd.there) | (with_reducible apply Sz.alloc) | (with_reducible apply Sz.set) | (with_reducible apply Sz.drew) | (with_reducible apply Sz.drewN) | (with_reducible apply Sz.bytesW) | (with_reducible assumption) | (with_reducible exact Sz.base _))) ?_; (try simp only [List.set_cons_zero, List.set_cons_succ]); exact (by repeat (first | (with_reducible exact Sel.nil) | (with_reducible apply Sel.cons) | (with_reducible exact Del.here) | (with_reducible apply Del.there))))⟩
  case rest =>
  clear F H HUP
  obtain ⟨rfl, H⟩ := hcut
  obtain ⟨w6, hwc⟩ : ∃ x, x = wc := ⟨_, rfl⟩
  subst hwc
  have F := H.facts; simp only [Facts, NeF, box, row, reg, cellsF, rCert, rCertKey, rInt, ne_eq, true_and, and_true, Nat.reduceAdd, Nat.zero_add] at F
  go_wp2_with (first | (go_at_call 26; refine (HMF.out _).mono ?_; rintro e w7 ⟨rfl, q2⟩; (try clear q0 q1); replace H := Hp.step (by repeat (first | (with_reducible exact H) | (with_reducible apply Hp.alloc) | (with_reducible apply Hp.set) | (with_reducible apply Hp.drew) | (with_reducible apply Hp.drewN) | (with_reducible apply Hp.bytesW) | (with_reducible exact Upd.here) | (with_reducible exact Upd.hereR) | (with_reducible apply Upd.there) | (with_reducible apply Sz.alloc) | (with_reducible apply Sz.set) | (with_reducible apply Sz.drew) | (with_reducible apply Sz.drewN) | (with_reducible apply Sz.bytesW) | (with_reducible assumption) | (with_reducible exact Sz.base _))) q2; (try simp only [List.set_cons_zero, List.set_cons_succ, List.cons_append, List.nil_append] at H); clear q2 F; have F := H.facts; simp only [Facts, NeF, box, row, reg, cellsF, rCert, rCertKey, rInt, ne_eq, true_and, and_true, Nat.reduceAdd, Nat.zero_add] at F) | (go_at_call 27; refine (l01Copy_hp A2 ds.length c2 ds _ (hr2.grow (Hp.b (by repeat (first | (with_reducible exact H) | (with_reducible apply Hp.alloc) | (with_reducible apply Hp.set) | (with_reducible apply Hp.drew) | (with_reducible apply Hp.drewN) | (with_reducible apply Hp.bytesW) | (with_reducible exact Upd.here) | (with_reducible exact Upd.hereR) | (with_reducible apply Upd.there) | (with_reducible apply Sz.alloc) | (with_reducible apply Sz.set) | (with_reducible apply Sz.drew) | (with_reducible apply Sz.drewN) | (with_reducible apply Sz.bytesW) | (with_reducible assumption) | (with_reducible exact Sz.base _))))) rfl hb2).mono ?_; rintro e w8 ⟨G, gd, rfl, e1⟩; replace H := Hp.call (by repeat (first | (with_reducible exact H) | (with_reducible apply Hp.alloc) | (with_reducible apply Hp.set) | (with_reducible apply Hp.drew) | (with_reducible apply Hp.drewN) | (with_reducible apply Hp.bytesW) | (with_reducible exact Upd.here) | (with_reducible exact Upd.hereR) | (with_reducible apply Upd.there) | (with_reducible apply Sz.alloc) | (with_reducible apply Sz.set) | (with_reducible apply Sz.drew) | (with_reducible apply Sz.drewN) | (with_reducible apply Sz.bytesW) | (with_reducible assumption) | (with_reducible exact Sz.base _))) e1; (try simp only [List.set_cons_zero, List.set_cons_succ, List.cons_append, List.nil_append] at H); clear e1 F; have F := H.facts; simp only [Facts, NeF, box, row, reg, cellsF, rCert, rCertKey, rInt, ne_eq, true_and, and_true, Nat.reduceAdd, Nat.zero_add] at F))
  clear F
  generalize hB11 : w8.heap.size = b11 at *
  have HS11 : Sz w8 b11 := hB11
  clear hB11
  have HH := Lib.hid H; clear H
  go_loopw [13, 12] (fun i p2 wr => ∃ k : Nat, k ≤ cs.length + 1 ∧ i = .int .i64 k ∧ ∃ pb, p2 = .bool pb ∧ Hid (pb = decide (pz < k)) ∧ ∃ ls qs, Hid (insAt pz (⟨ser, owner, iss, from_, to_, ca, depth, mf⟩ : Cert) cs k = ls ∧ insAt pz (⟨ser, key⟩ : CertKey) ks k = qs ∧ ls.length ≤ k + 1 ∧ qs.length ≤ k + 1) ∧ ∃ A d A' d', Hid (Hp w wr [rCert A d ls, rCertKey A' d' qs, rInt G gd ds, box b11 28 [.slice A ls.length d, .slice A' qs.length d', .slice G ds.length gd], box (w.heap.size + 1 + 1) 28 [.slice none 0 0, .slice none 0 0, .slice none 0 0], box (w.heap.size + 1) 30 [.int .i64 ser, .string owner, .int .i64 iss, .int .i64 from_, .int .i64 to_, .bool ca, .int .i64 depth, .int .i64 mf], box w.heap.size 28 [.slice A0 cs.length c0, .slice A1 ks.length c1, .slice A2 ds.length c2]])) (fun i _ _ => cs.length + 1 - (intOf i).toNat)
  case atStart =>
    have H := HH.out
    refine ⟨0, Nat.zero_le _, rfl, false, rfl, by show _ = _; simp, [], [], ⟨insAt_zero, insAt_zero, Nat.zero_le _, Nat.zero_le _⟩, none, 0, none, 0, ?_⟩
    exact Lib.hid (Hp.give (Hp.cons_nilRow (Hp.cons_nilRow (by repeat (first | (with_reducible exact H) | (with_reducible apply Hp.alloc) | (with_reducible apply Hp.set) | (with_reducible apply Hp.drew) | (with_reducible apply Hp.drewN) | (with_reducible apply Hp.bytesW) | (with_reducible exact Upd.here) | (with_reducible exact Upd.hereR) | (with_reducible apply Upd.there) | (with_reducible apply Sz.alloc) | (with_reducible apply Sz.set) | (with_reducible apply Sz.drew) | (with_reducible apply Sz.drewN) | (with_reducible apply Sz.bytesW) | (with_reducible assumption) | (with_reducible exact Sz.base _))) 57 2) 30 8) [0, 1, 3, 2, 4, 5, 6] (by decide) (by rfl))
  case round =>
    clear HH HS11
    obtain ⟨k, hk, rfl, pb, rfl, HPB, ls, qs, HX, A, d, A', d', HP⟩ := hrel
    have H := HP.out
    have F := H.facts; simp only [Facts, NeF, box, row, reg, cellsF, rCert, rCertKey, rInt, ne_eq, true_and, and_true, Nat.reduceAdd, Nat.zero_add] at F
    have hk0 : (0 : Int) ≤ (k : Int) := by omega
    obtain ⟨x1, x2, x3, x4⟩ := HX.out
    by_cases hle : k ≤ cs.length
    · have hk3 : (k : Int) ≤ (cs.length : Int) := by omega
      have hkc : k ≤ 1048576 := by omega
      have y1 : k = pz → ls.length ≤ k := fun hz => by rw [← x1, insAt, if_pos (by omega), List.length_take]; omega
      have y2 : k = pz → qs.length ≤ k := fun hz => by rw [← x2, insAt, if_pos (by omega), List.length_take]; omega
      obtain ⟨qq, HQ⟩ : ∃ qq, Hid (qq = decide (k = pz)) := ⟨_, rfl⟩
      obtain ⟨pb2, HPB2⟩ : ∃ b, Hid (b = decide (pz < k + 1)) := ⟨_, rfl⟩
      obtain ⟨ls2, HL2⟩ : ∃ l, Hid (l = if k = pz then ls ++ [(⟨ser, owner, iss, from_, to_, ca, depth, mf⟩ : Cert)] else ls) := ⟨_, rfl⟩
      obtain ⟨qs2, HQ2⟩ : ∃ l, Hid (l = if k = pz then qs ++ [(⟨ser, key⟩ : CertKey)] else qs) := ⟨_, rfl⟩
      have hll2 : ls2.length ≤ k + 1 := by
        rw [HL2.out]
        by_cases hz : k = pz
        · rw [if_pos hz]; have := y1 hz; simp; omega
        · rw [if_neg hz]; exact x3
      have hlq2 : qs2.length ≤ k + 1 := by
        rw [HQ2.out]
        by_cases hz : k = pz
        · rw [if_pos hz]; have := y2 hz; simp; omega
        · rw [if_neg hz]; exact x4
      have HN1 : Hid (∀ (hlt : k < cs.length) (hkk : k < ks.length), insAt pz (⟨ser, owner, iss, from_, to_, ca, depth, mf⟩ : Cert) cs (k + 1) = ls2 ++ [cs[k]] ∧ insAt pz (⟨ser, key⟩ : CertKey) ks (k + 1) = qs2 ++ [ks[k]]) := by
        intro hlt hkk
        rw [HL2.out, HQ2.out]
        rcases Nat.lt_trichotomy k pz with hz | hz | hz
        · rw [if_neg (by omega), if_neg (by omega)]
          exact ⟨by rw [insAt_below hlt hz, x1], by rw [insAt_below hkk hz, x2]⟩
        · rw [if_pos hz, if_pos hz]
          exact ⟨by rw [← x1, ← hz, insAt_at hlt], by rw [← x2, ← hz, insAt_at hkk]⟩
        · rw [if_neg (by omega), if_neg (by omega)]
          exact ⟨by rw [insAt_above hlt hz, x1], by rw [insAt_above hkk hz, x2]⟩
      have HN2 : Hid (k = cs.length → insAt pz (⟨ser, owner, iss, from_, to_, ca, depth, mf⟩ : Cert) cs (k + 1) = ls2 ∧ insAt pz (⟨ser, key⟩ : CertKey) ks (k + 1) = qs2) := by
        intro he
        have hkl := HKL.out
        rw [HL2.out, HQ2.out]
        by_cases hz : k = pz
        · rw [if_pos hz, if_pos hz]
          exact ⟨by rw [← x1]; exact insAt_out (by omega) hz, by rw [← x2]; exact insAt_out (by omega) hz⟩
        · rw [if_neg hz, if_neg hz]
          exact ⟨by rw [← x1]; exact insAt_over (by omega) (by omega), by rw [← x2]; exact insAt_over (by omega) (by omega)⟩
      have HXD : Hid (∀ hlt : k < cs.length, (k < pz → ¬ ser < cs[k].ser) ∧ (pz ≤ k → ser < cs[k].ser)) := fun hlt => ⟨fun hz => by have := HP2.out k hlt hz; omega, fun hz => HP3.out k hlt hz⟩
      have hl1 : ls.length + 1 ≤ maxLen := by unfold maxLen; omega
      have hl2 : qs.length + 1 ≤ maxLen := by unfold maxLen; omega
      have hl3 : ls2.length + 1 ≤ maxLen := by unfold maxLen; omega
      have hl4 : qs2.length + 1 ≤ maxLen := by unfold maxLen; omega
      clear x1 x2 y1 y2 HX HE HP2 HP3 HMF HCO
      go_upto_region 22 with fail
      go_cut [137] (fun s137 wc => s137 = .bool qq ∧ Hp w wc [rCert A d ls, rCertKey A' d' qs, rInt G gd ds, box b11 28 [.slice A ls.length d, .slice A' qs.length d', .slice G ds.length gd], box (w.heap.size + 1 + 1) 28 [.slice none 0 0, .slice none 0 0, .slice none 0 0], box (w.heap.size + 1) 30 [.int .i64 ser, .string owner, .int .i64 iss, .int .i64 from_, .int .i64 to_, .bool ca, .int .i64 depth, .int .i64 mf], box w.heap.size 28 [.slice A0 cs.length c0, .slice A1 ks.length c1, .slice A2 ds.length c2]])
      case first =>
        clear hl1 hl2 hl3 hl4 HN1 HN2 HL2 HQ2 HPB2 hll2 hlq2 x3 x4
        by_cases hlt : k < cs.length
        · have hxd := HXD.out hlt
          obtain ⟨b, off, rfl, hb⟩ := Rd.atC encCert_len hr0 rfl (by omega)
          have hkk : k < ks.length := by have := HKL.out; omega
          obtain ⟨b1, off1, rfl, hb1'⟩ := Rd.atC encCertKey_len hr1 rfl (by omega)
          have hcs : ∀ (W : World) (L : List Ent), Hp w W L → _ := fun W L h => Rd.certAt hr0 rfl (k := k) hlt rfl W h.b
          have HCS := Lib.hid hcs; clear hcs
          have hks : ∀ (W : World) (L : List Ent), Hp w W L → _ := fun W L h => Rd.keyAt hr1 rfl (k := k) hkk rfl W h.b
          have HKS := Lib.hid hks; clear hks
          obtain ⟨e0, e1, e2, e3, e4, e5, e6, e7⟩ := HCS.out _ _ H
          obtain ⟨q0, q1⟩ := HKS.out _ _ H
          have hk1 : (k : Int) < (cs.length : Int) := by omega
          have hk2 : (k : Int) < (ks.length : Int) := by omega
          have hkn : decide ((k : Int) = (cs.length : Int)) = false := decide_eq_false (by omega)
          have hkm : ((k : Int) == (cs.length : Int)) = false := by simp; omega
          have hbw : b < wr.heap.size := Nat.lt_of_lt_of_le hb H.b.size
          have hbe : ¬ b = wr.heap.size ∧ ¬ wr.heap.size = b := by omega
          have hbw1 : b1 < wr.heap.size := Nat.lt_of_lt_of_le hb1' H.b.size
          have hbe1 : ¬ b1 = wr.heap.size ∧ ¬ wr.heap.size = b1 := by omega
          generalize cs[k] = u at *
          generalize ks[k] = v at *
          rcases Nat.lt_trichotomy k pz with hz | hz | hz
          · have hxb : decide (ser < u.ser) = false := decide_eq_false (hxd.1 hz)
            have hpb : false = pb := by rw [HPB.out]; symm; simp; omega
            subst hpb
            have hqq : false = qq := by rw [HQ.out]; symm; simp; omega
            subst hqq
            clear hz hxd HPB HQ HXD
            go_region
            go_wp2_with fail
            go_meet
            exact ⟨rfl, (by refine Hp.sel (by repeat (first | (with_reducible exact H) | (with_reducible apply Hp.alloc) | (with_reducible apply Hp.set) | (with_reducible apply Hp.drew) | (with_reducible apply Hp.drewN) | (with_reducible apply Hp.bytesW) | (with_reducible exact Upd.here) | (with_reducible exact Upd.hereR) | (with_reducible apply Upd.there) | (with_reducible apply Sz.alloc) | (with_reducible apply Sz.set) | (with_reducible apply Sz.drew) | (with_reducible apply Sz.drewN) | (with_reducible apply Sz.bytesW) | (with_reducible assumption) | (with_reducible exact Sz.base _))) ?_; (try simp only [List.set_cons_zero, List.set_cons_succ]); exact (by repeat (first | (with_reducible exact Sel.nil) | (with_reducible apply Sel.cons) | (with_reducible exact Del.here) | (with_reducible apply Del.there))))⟩
          · have hxb : decide (ser < u.ser) = true := decide_eq_true (hxd.2 (by omega))
            have hpb : false = pb := by rw [HPB.out]; symm; simp; omega
            subst hpb
            have hqq : true = qq := by rw [HQ.out]; symm; simp; omega
            subst hqq
            clear hz hxd HPB HQ HXD
            go_region
            go_wp2_with fail
            go_meet
            exact ⟨rfl, (by refine Hp.sel (by repeat (first | (with_reducible exact H) | (with_reducible apply Hp.alloc) | (with_reducible apply Hp.set) | (with_reducible apply Hp.drew) | (with_reducible apply Hp.drewN) | (with_reducible apply Hp.bytesW) | (with_reducible exact Upd.here) | (with_reducible exact Upd.hereR) | (with_reducible apply Upd.there) | (with_reducible apply Sz.alloc) | (with_reducible apply Sz.set) | (with_reducible apply Sz.drew) | (with_reducible apply Sz.drewN) | (with_reducible apply Sz.bytesW) | (with_reducible assumption) | (with_reducible exact Sz.base _))) ?_; (try simp only [List.set_cons_zero, List.set_cons_succ]); exact (by repeat (first | (with_reducible exact Sel.nil) | (with_reducible apply Sel.cons) | (with_reducible exact Del.here) | (with_reducible apply Del.there))))⟩
          · skip
            have hpb : true = pb := by rw [HPB.out]; symm; simp; omega
            subst hpb
            have hqq : false = qq := by rw [HQ.out]; symm; simp; omega
            subst hqq
            clear hz hxd HPB HQ HXD
            go_region
            go_wp2_with fail
            go_meet
            exact ⟨rfl, (by refine Hp.sel (by repeat (first | (with_reducible exact H) | (with_reducible apply Hp.alloc) | (with_reducible apply Hp.set) | (with_reducible apply Hp.drew) | (with_reducible apply Hp.drewN) | (with_reducible apply Hp.bytesW) | (with_reducible exact Upd.here) | (with_reducible exact Upd.hereR) | (with_reducible apply Upd.there) | (with_reducible apply Sz.alloc) | (with_reducible apply Sz.set) | (with_reducible apply Sz.drew) | (with_reducible apply Sz.drewN) | (with_reducible apply Sz.bytesW) | (with_reducible assumption) | (with_reducible exact Sz.base _))) ?_; (try simp only [List.set_cons_zero, List.set_cons_succ]); exact (by repeat (first | (with_reducible exact Sel.nil) | (with_reducible apply Sel.cons) | (with_reducible exact Del.here) | (with_reducible apply Del.there))))⟩
        · have hk4 : ¬ (k : Int) < (cs.length : Int) := by omega
          have hkn : decide ((k : Int) = (cs.length : Int)) = true := decide_eq_true (by omega)
          have hkm : ((k : Int) == (cs.length : Int)) = true := by simp; omega
          by_cases hz : pz < k
          · skip
            have hpb : true = pb := by rw [HPB.out]; symm; simp; omega
            subst hpb
            have hqq : false = qq := by rw [HQ.out]; symm; simp; omega
            subst hqq
            clear hz HPB HQ HXD hlt hle
            go_region
            go_wp2_with fail
            go_meet
            exact ⟨rfl, (by refine Hp.sel (by repeat (first | (with_reducible exact H) | (with_reducible apply Hp.alloc) | (with_reducible apply Hp.set) | (with_reducible apply Hp.drew) | (with_reducible apply Hp.drewN) | (with_reducible apply Hp.bytesW) | (with_reducible exact Upd.here) | (with_reducible exact Upd.hereR) | (with_reducible apply Upd.there) | (with_reducible apply Sz.alloc) | (with_reducible apply Sz.set) | (with_reducible apply Sz.drew) | (with_reducible apply Sz.drewN) | (with_reducible apply Sz.bytesW) | (with_reducible assumption) | (with_reducible exact Sz.base _))) ?_; (try simp only [List.set_cons_zero, List.set_cons_succ]); exact (by repeat (first | (with_reducible exact Sel.nil) | (with_reducible apply Sel.cons) | (with_reducible exact Del.here) | (with_reducible apply Del.there))))⟩
          · skip
            have hpb : false = pb := by rw [HPB.out]; symm; simp; omega
            subst hpb
            have hqq : true = qq := by rw [HQ.out]; symm; simp; omega
            subst hqq
            clear hz HPB HQ HXD hlt hle
            go_region
            go_wp2_with fail
            go_meet
            exact ⟨rfl, (by refine Hp.sel (by repeat (first | (with_reducible exact H) | (with_reducible apply Hp.alloc) | (with_reducible apply Hp.set) | (with_reducible apply Hp.drew) | (with_reducible apply Hp.drewN) | (with_reducible apply Hp.bytesW) | (with_reducible exact Upd.here) | (with_reducible exact Upd.hereR) | (with_reducible apply Upd.there) | (with_reducible apply Sz.alloc) | (with_reducible apply Sz.set) | (with_reducible apply Sz.drew) | (with_reducible apply Sz.drewN) | (with_reducible apply Sz.bytesW) | (with_reducible assumption) | (with_reducible exact Sz.base _))) ?_; (try simp only [List.set_cons_zero, List.set_cons_succ]); exact (by repeat (first | (with_reducible exact Sel.nil) | (with_reducible apply Sel.cons) | (with_reducible exact Del.here) | (with_reducible apply Del.there))))⟩
      case rest =>
      clear F H HXD
      obtain ⟨rfl, H⟩ := hcut
      obtain ⟨w22, hwc⟩ : ∃ x, x = wc := ⟨_, rfl⟩
      subst hwc
      have F := H.facts; simp only [Facts, NeF, box, row, reg, cellsF, rCert, rCertKey, rInt, ne_eq, true_and, and_true, Nat.reduceAdd, Nat.zero_add] at F
      go_upto_if 137 with fail
      go_cut [12] (fun s12 wc => s12 = .bool pb2 ∧ ∃ (A5 : Option Addr) (d5 : Nat) (A6 : Option Addr) (d6 : Nat), Hp w wc [rCert A5 d5 ls2, rCertKey A6 d6 qs2, rInt G gd ds, box b11 28 [.slice A5 ls2.length d5, .slice A6 qs2.length d6, .slice G ds.length gd], box (w.heap.size + 1 + 1) 28 [.slice none 0 0, .slice none 0 0, .slice none 0 0], box (w.heap.size + 1) 30 [.int .i64 ser, .string owner, .int .i64 iss, .int .i64 from_, .int .i64 to_, .bool ca, .int .i64 depth, .int .i64 mf], box w.heap.size 28 [.slice A0 cs.length c0, .slice A1 ks.length c1, .slice A2 ds.length c2]])
      case first =>
        cases qq with
        | false =>
          have hz : ¬ k = pz := by have := HQ.out; simpa using this
          obtain rfl : pb = pb2 := by rw [HPB.out, HPB2.out]; exact decide_eq_decide.2 (by omega)
          have h9 := HL2.out
          rw [if_neg hz] at h9
          subst h9
          have h9 := HQ2.out
          rw [if_neg hz] at h9
          subst h9
          go_wp2_with fail
          go_meet
          exact ⟨rfl, A, d, A', d', (by refine Hp.sel (by repeat (first | (with_reducible exact H) | (with_reducible apply Hp.alloc) | (with_reducible apply Hp.set) | (with_reducible apply Hp.drew) | (with_reducible apply Hp.drewN) | (with_reducible apply Hp.bytesW) | (with_reducible exact Upd.here) | (with_reducible exact Upd.hereR) | (with_reducible apply Upd.there) | (with_reducible apply Sz.alloc) | (with_reducible apply Sz.set) | (with_reducible apply Sz.drew) | (with_reducible apply Sz.drewN) | (with_reducible apply Sz.bytesW) | (with_reducible assumption) | (with_reducible exact Sz.base _))) ?_; (try simp only [List.set_cons_zero, List.set_cons_succ]); exact (by repeat (first | (with_reducible exact Sel.nil) | (with_reducible apply Sel.cons) | (with_reducible exact Del.here) | (with_reducible apply Del.there))))⟩
        | true =>
          have hz : k = pz := by have := HQ.out; simpa using this
          obtain rfl : true = pb2 := by rw [HPB2.out]; symm; simp; omega
          have HLs : Hid (ls2 = ls ++ [(⟨ser, owner, iss, from_, to_, ca, depth, mf⟩ : Cert)]) := by have h9 := HL2.out; rw [if_pos hz] at h9; exact h9
          have HQs : Hid (qs2 = qs ++ [(⟨ser, key⟩ : CertKey)]) := by have h9 := HQ2.out; rw [if_pos hz] at h9; exact h9
          clear hz HQ HL2 HQ2 HN1 HN2 HPB hll2 hlq2 hl3 hl4
          go_upto_region 24 with (first | (at_builtin; refine wpList_append_lies _ (by rfl) _ _ 24 (by rfl) w.heap.size 30 i0 _ 8 _ Tryz.underlying24 hi0 hz0 hz1 hz2 (by rfl) (by decide) (.slice A (ls.length) d) (ls.length) _ (by rfl) (Hp.rowM (by repeat (first | (with_reducible exact H) | (with_reducible apply Hp.alloc) | (with_reducible apply Hp.set) | (with_reducible apply Hp.drew) | (with_reducible apply Hp.drewN) | (with_reducible apply Hp.bytesW) | (with_reducible exact Upd.here) | (with_reducible exact Upd.hereR) | (with_reducible apply Upd.there) | (with_reducible apply Sz.alloc) | (with_reducible apply Sz.set) | (with_reducible apply Sz.drew) | (with_reducible apply Sz.drewN) | (with_reducible apply Sz.bytesW) | (with_reducible assumption) | (with_reducible exact Sz.base _))) (by repeat (first | (with_reducible exact List.mem_cons_self) | (with_reducible apply List.mem_cons_of_mem)))) ⟨w22.heap.size, 0, none⟩ 1 1 (encCert (⟨ser, owner, iss, from_, to_, ca, depth, mf⟩ : Cert)) (by rfl) (by rfl) (Hp.news (by repeat (first | (with_reducible exact H) | (with_reducible apply Hp.alloc) | (with_reducible apply Hp.set) | (with_reducible apply Hp.drew) | (with_reducible apply Hp.drewN) | (with_reducible apply Hp.bytesW) | (with_reducible exact Upd.here) | (with_reducible exact Upd.hereR) | (with_reducible apply Upd.there) | (with_reducible apply Sz.alloc) | (with_reducible apply Sz.set) | (with_reducible apply Sz.drew) | (with_reducible apply Sz.drewN) | (with_reducible apply Sz.bytesW) | (with_reducible assumption) | (with_reducible exact Sz.base _))) 0 (by rfl)) (oneCert (⟨ser, owner, iss, from_, to_, ca, depth, mf⟩ : Cert)) (by decide) hl1 (by omega) (Hp.b (by repeat (first | (with_reducible exact H) | (with_reducible apply Hp.alloc) | (with_reducible apply Hp.set) | (with_reducible apply Hp.drew) | (with_reducible apply Hp.drewN) | (with_reducible apply Hp.bytesW) | (with_reducible exact Upd.here) | (with_reducible exact Upd.hereR) | (with_reducible apply Upd.there) | (with_reducible apply Sz.alloc) | (with_reducible apply Sz.set) | (with_reducible apply Sz.drew) | (with_reducible apply Sz.drewN) | (with_reducible apply Sz.bytesW) | (with_reducible assumption) | (with_reducible exact Sz.base _)))).size _ rfl ?_; intro g cap wa hown hgrow hat hlt1; have H5 := Hp.appM (by repeat (first | (with_reducible exact H) | (with_reducible apply Hp.alloc) | (with_reducible apply Hp.set) | (with_reducible apply Hp.drew) | (with_reducible apply Hp.drewN) | (with_reducible apply Hp.bytesW) | (with_reducible exact Upd.here) | (with_reducible exact Upd.hereR) | (with_reducible apply Upd.there) | (with_reducible apply Sz.alloc) | (with_reducible apply Sz.set) | (with_reducible apply Sz.drew) | (with_reducible apply Sz.drewN) | (with_reducible apply Sz.bytesW) | (with_reducible assumption) | (with_reducible exact Sz.base _))) (by repeat (first | (with_reducible exact Rep.here) | (with_reducible apply Rep.there))) hown hgrow hat rfl hlt1; (try simp only [List.set_cons_zero, List.set_cons_succ, List.cons_append, List.nil_append] at H5); have FA := H5.facts; simp only [Facts, NeF, box, row, reg, cellsF, rCert, rCertKey, rInt, ne_eq, true_and, and_true, Nat.reduceAdd, Nat.zero_add] at FA))
          rw [rCert_snoc] at H5
          obtain ⟨g1, rfl⟩ : ∃ z, z = g := ⟨g, rfl⟩
          obtain ⟨cap1, rfl⟩ : ∃ z, z = cap := ⟨cap, rfl⟩
          obtain ⟨wb1, rfl⟩ : ∃ z, z = wa := ⟨wa, rfl⟩
          clear hown hgrow hat hlt1
          obtain ⟨w91, hw91⟩ : ∃ w9, w9 = wb1.setCell ⟨b11, 0, none⟩ (.slice (some ⟨g1, 0, none⟩) (ls.length + 1) cap1) := ⟨_, rfl⟩
          have H6 : Hp w w91 [rCert (some ⟨g1, 0, none⟩) cap1 (ls ++ [(⟨ser, owner, iss, from_, to_, ca, depth, mf⟩ : Cert)]), rCertKey A' d' qs, rInt G gd ds, box b11 28 [.slice (some ⟨g1, 0, none⟩) (ls ++ [(⟨ser, owner, iss, from_, to_, ca, depth, mf⟩ : Cert)]).length cap1, .slice A' qs.length d', .slice G ds.length gd], box (w.heap.size + 1 + 1) 28 [.slice none 0 0, .slice none 0 0, .slice none 0 0], box (w.heap.size + 1) 30 [.int .i64 ser, .string owner, .int .i64 iss, .int .i64 from_, .int .i64 to_, .bool ca, .int .i64 depth, .int .i64 mf], box w.heap.size 28 [.slice A0 cs.length c0, .slice A1 ks.length c1, .slice A2 ds.length c2]] := by rw [hw91]; simpa using (by refine Hp.sel (by repeat (first | (with_reducible exact H5) | (with_reducible apply Hp.alloc) | (with_reducible apply Hp.set) | (with_reducible apply Hp.drew) | (with_reducible apply Hp.drewN) | (with_reducible apply Hp.bytesW) | (with_reducible exact Upd.here) | (with_reducible exact Upd.hereR) | (with_reducible apply Upd.there) | (with_reducible apply Sz.alloc) | (with_reducible apply Sz.set) | (with_reducible apply Sz.drew) | (with_reducible apply Sz.drewN) | (with_reducible apply Sz.bytesW) | (with_reducible assumption) | (with_reducible exact Sz.base _))) ?_; (try simp only [List.set_cons_zero, List.set_cons_succ]); exact (by repeat (first | (with_reducible exact Sel.nil) | (with_reducible apply Sel.cons) | (with_reducible exact Del.here) | (with_reducible apply Del.there))))
          rw [← hw91]
          clear hw91 H5 FA F HP H
          rw [← HLs.out] at H6
          clear HLs
          have F := H6.facts; simp only [Facts, NeF, box, row, reg, cellsF, rCert, rCertKey, rInt, ne_eq, true_and, and_true, Nat.reduceAdd, Nat.zero_add] at F
          go_wp2_with (first | (at_builtin; refine wpList_append_lies _ (by rfl) _ _ 25 (by rfl) w.heap.size 57 j0 _ 2 _ Tryz.underlying25 hj0 hy0 hy1 hy2 (by rfl) (by decide) (.slice A' (qs.length) d') (qs.length) _ (by rfl) (Hp.rowM (by repeat (first | (with_reducible exact H6) | (with_reducible apply Hp.alloc) | (with_reducible apply Hp.set) | (with_reducible apply Hp.drew) | (with_reducible apply Hp.drewN) | (with_reducible apply Hp.bytesW) | (with_reducible exact Upd.here) | (with_reducible exact Upd.hereR) | (with_reducible apply Upd.there) | (with_reducible apply Sz.alloc) | (with_reducible apply Sz.set) | (with_reducible apply Sz.drew) | (with_reducible apply Sz.drewN) | (with_reducible apply Sz.bytesW) | (with_reducible assumption) | (with_reducible exact Sz.base _))) (by repeat (first | (with_reducible exact List.mem_cons_self) | (with_reducible apply List.mem_cons_of_mem)))) ⟨w91.heap.size, 0, none⟩ 1 1 (encCertKey (⟨ser, key⟩ : CertKey)) (by rfl) (by rfl) (Hp.news (by repeat (first | (with_reducible exact H6) | (with_reducible apply Hp.alloc) | (with_reducible apply Hp.set) | (with_reducible apply Hp.drew) | (with_reducible apply Hp.drewN) | (with_reducible apply Hp.bytesW) | (with_reducible exact Upd.here) | (with_reducible exact Upd.hereR) | (with_reducible apply Upd.there) | (with_reducible apply Sz.alloc) | (with_reducible apply Sz.set) | (with_reducible apply Sz.drew) | (with_reducible apply Sz.drewN) | (with_reducible apply Sz.bytesW) | (with_reducible assumption) | (with_reducible exact Sz.base _))) 0 (by rfl)) (oneCertKey (⟨ser, key⟩ : CertKey)) (by decide) hl2 (by omega) (Hp.b (by repeat (first | (with_reducible exact H6) | (with_reducible apply Hp.alloc) | (with_reducible apply Hp.set) | (with_reducible apply Hp.drew) | (with_reducible apply Hp.drewN) | (with_reducible apply Hp.bytesW) | (with_reducible exact Upd.here) | (with_reducible exact Upd.hereR) | (with_reducible apply Upd.there) | (with_reducible apply Sz.alloc) | (with_reducible apply Sz.set) | (with_reducible apply Sz.drew) | (with_reducible apply Sz.drewN) | (with_reducible apply Sz.bytesW) | (with_reducible assumption) | (with_reducible exact Sz.base _)))).size _ rfl ?_; intro g cap wa hown hgrow hat hlt1; have H7 := Hp.appM (by repeat (first | (with_reducible exact H6) | (with_reducible apply Hp.alloc) | (with_reducible apply Hp.set) | (with_reducible apply Hp.drew) | (with_reducible apply Hp.drewN) | (with_reducible apply Hp.bytesW) | (with_reducible exact Upd.here) | (with_reducible exact Upd.hereR) | (with_reducible apply Upd.there) | (with_reducible apply Sz.alloc) | (with_reducible apply Sz.set) | (with_reducible apply Sz.drew) | (with_reducible apply Sz.drewN) | (with_reducible apply Sz.bytesW) | (with_reducible assumption) | (with_reducible exact Sz.base _))) (by repeat (first | (with_reducible exact Rep.here) | (with_reducible apply Rep.there))) hown hgrow hat rfl hlt1; (try simp only [List.set_cons_zero, List.set_cons_succ, List.cons_append, List.nil_append] at H7); have FA := H7.facts; simp only [Facts, NeF, box, row, reg, cellsF, rCert, rCertKey, rInt, ne_eq, true_and, and_true, Nat.reduceAdd, Nat.zero_add] at FA))
          rw [rCertKey_snoc] at H7
          obtain ⟨g2, rfl⟩ : ∃ z, z = g := ⟨g, rfl⟩
          obtain ⟨cap2, rfl⟩ : ∃ z, z = cap := ⟨cap, rfl⟩
          obtain ⟨wb2, rfl⟩ : ∃ z, z = wa := ⟨wa, rfl⟩
          clear hown hgrow hat hlt1
          obtain ⟨w92, hw92⟩ : ∃ w9, w9 = wb2.setCell ⟨b11, 1, none⟩ (.slice (some ⟨g2, 0, none⟩) (qs.length + 1) cap2) := ⟨_, rfl⟩
          have H8 : Hp w w92 [rCert (some ⟨g1, 0, none⟩) cap1 ls2, rCertKey (some ⟨g2, 0, none⟩) cap2 (qs ++ [(⟨ser, key⟩ : CertKey)]), rInt G gd ds, box b11 28 [.slice (some ⟨g1, 0, none⟩) ls2.length cap1, .slice (some ⟨g2, 0, none⟩) (qs ++ [(⟨ser, key⟩ : CertKey)]).length cap2, .slice G ds.length gd], box (w.heap.size + 1 + 1) 28 [.slice none 0 0, .slice none 0 0, .slice none 0 0], box (w.heap.size + 1) 30 [.int .i64 ser, .string owner, .int .i64 iss, .int .i64 from_, .int .i64 to_, .bool ca, .int .i64 depth, .int .i64 mf], box w.heap.size 28 [.slice A0 cs.length c0, .slice A1 ks.length c1, .slice A2 ds.length c2]] := by rw [hw92]; simpa using (by refine Hp.sel (by repeat (first | (with_reducible exact H7) | (with_reducible apply Hp.alloc) | (with_reducible apply Hp.set) | (with_reducible apply Hp.drew) | (with_reducible apply Hp.drewN) | (with_reducible apply Hp.bytesW) | (with_reducible exact Upd.here) | (with_reducible exact Upd.hereR) | (with_reducible apply Upd.there) | (with_reducible apply Sz.alloc) | (with_reducible apply Sz.set) | (with_reducible apply Sz.drew) | (with_reducible apply Sz.drewN) | (with_reducible apply Sz.bytesW) | (with_reducible assumption) | (with_reducible exact Sz.base _))) ?_; (try simp only [List.set_cons_zero, List.set_cons_succ]); exact (by repeat (first | (with_reducible exact Sel.nil) | (with_reducible apply Sel.cons) | (with_reducible exact Del.here) | (with_reducible apply Del.there))))
          rw [← HQs.out] at H8
          clear HQs
          go_wp2_with fail
          rw [← hw92]
          go_meet
          exact ⟨rfl, _, _, _, _, (by refine Hp.sel (by repeat (first | (with_reducible exact H8) | (with_reducible apply Hp.alloc) | (with_reducible apply Hp.set) | (with_reducible apply Hp.drew) | (with_reducible apply Hp.drewN) | (with_reducible apply Hp.bytesW) | (with_reducible exact Upd.here) | (with_reducible exact Upd.hereR) | (with_reducible apply Upd.there) | (with_reducible apply Sz.alloc) | (with_reducible apply Sz.set) | (with_reducible apply Sz.drew) | (with_reducible apply Sz.drewN) | (with_reducible apply Sz.bytesW) | (with_reducible assumption) | (with_reducible exact Sz.base _))) ?_; (try simp only [List.set_cons_zero, List.set_cons_succ]); exact (by repeat (first | (with_reducible exact Sel.nil) | (with_reducible apply Sel.cons) | (with_reducible exact Del.here) | (with_reducible apply Del.there))))⟩
      case rest =>
      clear F H HQ HL2 HQ2 HPB
      obtain ⟨rfl, A5, d5, A6, d6, H⟩ := hcut
      obtain ⟨w25, hwc⟩ : ∃ x, x = wc := ⟨_, rfl⟩
      subst hwc
      have F := H.facts; simp only [Facts, NeF, box, row, reg, cellsF, rCert, rCertKey, rInt, ne_eq, true_and, and_true, Nat.reduceAdd, Nat.zero_add] at F
      by_cases hlt : k < cs.length
      · focus
          obtain ⟨b, off, rfl, hb⟩ := Rd.atC encCert_len hr0 rfl (by omega)
          have hkk : k < ks.length := by have := HKL.out; omega
          obtain ⟨b1, off1, rfl, hb1'⟩ := Rd.atC encCertKey_len hr1 rfl (by omega)
          have hcs : ∀ (W : World) (L : List Ent), Hp w W L → _ := fun W L h => Rd.certAt hr0 rfl (k := k) hlt rfl W h.b
          have HCS := Lib.hid hcs; clear hcs
          have hks : ∀ (W : World) (L : List Ent), Hp w W L → _ := fun W L h => Rd.keyAt hr1 rfl (k := k) hkk rfl W h.b
          have HKS := Lib.hid hks; clear hks
          obtain ⟨e0, e1, e2, e3, e4, e5, e6, e7⟩ := HCS.out _ _ H
          obtain ⟨q0, q1⟩ := HKS.out _ _ H
          have hk1 : (k : Int) < (cs.length : Int) := by omega
          have hk2 : (k : Int) < (ks.length : Int) := by omega
          have hkn : decide ((k : Int) = (cs.length : Int)) = false := decide_eq_false (by omega)
          have hkm : ((k : Int) == (cs.length : Int)) = false := by simp; omega
          have hbw : b < w25.heap.size := Nat.lt_of_lt_of_le hb H.b.size
          have hbe : ¬ b = w25.heap.size ∧ ¬ w25.heap.size = b := by omega
          have hbw1 : b1 < w25.heap.size := Nat.lt_of_lt_of_le hb1' H.b.size
          have hbe1 : ¬ b1 = w25.heap.size ∧ ¬ w25.heap.size = b1 := by omega
          have HN : Hid (insAt pz (⟨ser, owner, iss, from_, to_, ca, depth, mf⟩ : Cert) cs (k + 1) = ls2 ++ [cs[k]] ∧ insAt pz (⟨ser, key⟩ : CertKey) ks (k + 1) = qs2 ++ [ks[k]] ∧ (ls2 ++ [cs[k]]).length ≤ k + 1 + 1 ∧ (qs2 ++ [ks[k]]).length ≤ k + 1 + 1) := ⟨(HN1.out hlt hkk).1, (HN1.out hlt hkk).2, by simp; omega, by simp; omega⟩
          have HK1 : Hid (k + 1 ≤ cs.length + 1 ∧ cs.length + 1 - (k + 1) < cs.length + 1 - k) := ⟨by omega, by omega⟩
          clear HN1 HN2
          generalize cs[k] = u at *
          generalize ks[k] = v at *
          go_wp2_with fail
          go_region_law (first | (refine step_append_lies _ (by rfl) _ _ 24 (by rfl) w.heap.size 30 i0 _ 8 _ Tryz.underlying24 hi0 hz0 hz1 hz2 (by rfl) (by decide) (.slice A5 (ls2.length) d5) (ls2.length) _ (by rfl) (Hp.rowM (by repeat (first | (with_reducible exact H) | (with_reducible apply Hp.alloc) | (with_reducible apply Hp.set) | (with_reducible apply Hp.drew) | (with_reducible apply Hp.drewN) | (with_reducible apply Hp.bytesW) | (with_reducible exact Upd.here) | (with_reducible exact Upd.hereR) | (with_reducible apply Upd.there) | (with_reducible apply Sz.alloc) | (with_reducible apply Sz.set) | (with_reducible apply Sz.drew) | (with_reducible apply Sz.drewN) | (with_reducible apply Sz.bytesW) | (with_reducible assumption) | (with_reducible exact Sz.base _))) (by repeat (first | (with_reducible exact List.mem_cons_self) | (with_reducible apply List.mem_cons_of_mem)))) ⟨w25.heap.size, 0, none⟩ 1 1 (encCert u) (by rfl) (by rfl) (Hp.news (by repeat (first | (with_reducible exact H) | (with_reducible apply Hp.alloc) | (with_reducible apply Hp.set) | (with_reducible apply Hp.drew) | (with_reducible apply Hp.drewN) | (with_reducible apply Hp.bytesW) | (with_reducible exact Upd.here) | (with_reducible exact Upd.hereR) | (with_reducible apply Upd.there) | (with_reducible apply Sz.alloc) | (with_reducible apply Sz.set) | (with_reducible apply Sz.drew) | (with_reducible apply Sz.drewN) | (with_reducible apply Sz.bytesW) | (with_reducible assumption) | (with_reducible exact Sz.base _))) 0 (by rfl)) (oneCert u) (by decide) hl3 (by omega) (Hp.b (by repeat (first | (with_reducible exact H) | (with_reducible apply Hp.alloc) | (with_reducible apply Hp.set) | (with_reducible apply Hp.drew) | (with_reducible apply Hp.drewN) | (with_reducible apply Hp.bytesW) | (with_reducible exact Upd.here) | (with_reducible exact Upd.hereR) | (with_reducible apply Upd.there) | (with_reducible apply Sz.alloc) | (with_reducible apply Sz.set) | (with_reducible apply Sz.drew) | (with_reducible apply Sz.drewN) | (with_reducible apply Sz.bytesW) | (with_reducible assumption) | (with_reducible exact Sz.base _)))).size _ rfl ?_; intro g cap wa hown hgrow hat hlt1; have H9 := Hp.appM (by repeat (first | (with_reducible exact H) | (with_reducible apply Hp.alloc) | (with_reducible apply Hp.set) | (with_reducible apply Hp.drew) | (with_reducible apply Hp.drewN) | (with_reducible apply Hp.bytesW) | (with_reducible exact Upd.here) | (with_reducible exact Upd.hereR) | (with_reducible apply Upd.there) | (with_reducible apply Sz.alloc) | (with_reducible apply Sz.set) | (with_reducible apply Sz.drew) | (with_reducible apply Sz.drewN) | (with_reducible apply Sz.bytesW) | (with_reducible assumption) | (with_reducible exact Sz.base _))) (by repeat (first | (with_reducible exact Rep.here) | (with_reducible apply Rep.there))) hown hgrow hat rfl hlt1; (try simp only [List.set_cons_zero, List.set_cons_succ, List.cons_append, List.nil_append] at H9); have FA := H9.facts; simp only [Facts, NeF, box, row, reg, cellsF, rCert, rCertKey, rInt, ne_eq, true_and, and_true, Nat.reduceAdd, Nat.zero_add] at FA))
          all_goals
            rw [rCert_snoc] at H9
            obtain ⟨g3, rfl⟩ : ∃ z, z = g := ⟨g, rfl⟩
            obtain ⟨cap3, rfl⟩ : ∃ z, z = cap := ⟨cap, rfl⟩
            obtain ⟨wb3, rfl⟩ : ∃ z, z = wa := ⟨wa, rfl⟩
            clear hown hgrow hat hlt1
            obtain ⟨w93, hw93⟩ : ∃ w9, w9 = wb3.setCell ⟨b11, 0, none⟩ (.slice (some ⟨g3, 0, none⟩) (ls2.length + 1) cap3) := ⟨_, rfl⟩
            have H10 : Hp w w93 [rCert (some ⟨g3, 0, none⟩) cap3 (ls2 ++ [u]), rCertKey A6 d6 qs2, rInt G gd ds, box b11 28 [.slice (some ⟨g3, 0, none⟩) (ls2 ++ [u]).length cap3, .slice A6 qs2.length d6, .slice G ds.length gd], box (w.heap.size + 1 + 1) 28 [.slice none 0 0, .slice none 0 0, .slice none 0 0], box (w.heap.size + 1) 30 [.int .i64 ser, .string owner, .int .i64 iss, .int .i64 from_, .int .i64 to_, .bool ca, .int .i64 depth, .int .i64 mf], box w.heap.size 28 [.slice (some ⟨b, off, none⟩) cs.length c0, .slice (some ⟨b1, off1, none⟩) ks.length c1, .slice A2 ds.length c2]] := by rw [hw93]; simpa using (by refine Hp.sel (by repeat (first | (with_reducible exact H9) | (with_reducible apply Hp.alloc) | (with_reducible apply Hp.set) | (with_reducible apply Hp.drew) | (with_reducible apply Hp.drewN) | (with_reducible apply Hp.bytesW) | (with_reducible exact Upd.here) | (with_reducible exact Upd.hereR) | (with_reducible apply Upd.there) | (with_reducible apply Sz.alloc) | (with_reducible apply Sz.set) | (with_reducible apply Sz.drew) | (with_reducible apply Sz.drewN) | (with_reducible apply Sz.bytesW) | (with_reducible assumption) | (with_reducible exact Sz.base _))) ?_; (try simp only [List.set_cons_zero, List.set_cons_succ]); exact (by repeat (first | (with_reducible exact Sel.nil) | (with_reducible apply Sel.cons) | (with_reducible exact Del.here) | (with_reducible apply Del.there))))
            go_wp2_with fail
            rw [← hw93]
            clear hw93 H9 FA F H HP e0 e1 e2 e3 e4 e5 e6 e7 q0 q1
            generalize ls2 ++ [u] = ls4 at *
            have F := H10.facts; simp only [Facts, NeF, box, row, reg, cellsF, rCert, rCertKey, rInt, ne_eq, true_and, and_true, Nat.reduceAdd, Nat.zero_add] at F
            obtain ⟨q0, q1⟩ := HKS.out _ _ H10
            have hbw4 : b1 < w93.heap.size := Nat.lt_of_lt_of_le hb1' H10.b.size
            have hbe4 : ¬ b1 = w93.heap.size ∧ ¬ w93.heap.size = b1 := by omega
            go_region_law (first | (refine step_append_lies _ (by rfl) _ _ 25 (by rfl) w.heap.size 57 j0 _ 2 _ Tryz.underlying25 hj0 hy0 hy1 hy2 (by rfl) (by decide) (.slice A6 (qs2.length) d6) (qs2.length) _ (by rfl) (Hp.rowM (by repeat (first | (with_reducible exact H10) | (with_reducible apply Hp.alloc) | (with_reducible apply Hp.set) | (with_reducible apply Hp.drew) | (with_reducible apply Hp.drewN) | (with_reducible apply Hp.bytesW) | (with_reducible exact Upd.here) | (with_reducible exact Upd.hereR) | (with_reducible apply Upd.there) | (with_reducible apply Sz.alloc) | (with_reducible apply Sz.set) | (with_reducible apply Sz.drew) | (with_reducible apply Sz.drewN) | (with_reducible apply Sz.bytesW) | (with_reducible assumption) | (with_reducible exact Sz.base _))) (by repeat (first | (with_reducible exact List.mem_cons_self) | (with_reducible apply List.mem_cons_of_mem)))) ⟨w93.heap.size, 0, none⟩ 1 1 (encCertKey v) (by rfl) (by rfl) (Hp.news (by repeat (first | (with_reducible exact H10) | (with_reducible apply Hp.alloc) | (with_reducible apply Hp.set) | (with_reducible apply Hp.drew) | (with_reducible apply Hp.drewN) | (with_reducible apply Hp.bytesW) | (with_reducible exact Upd.here) | (with_reducible exact Upd.hereR) | (with_reducible apply Upd.there) | (with_reducible apply Sz.alloc) | (with_reducible apply Sz.set) | (with_reducible apply Sz.drew) | (with_reducible apply Sz.drewN) | (with_reducible apply Sz.bytesW) | (with_reducible assumption) | (with_reducible exact Sz.base _))) 0 (by rfl)) (oneCertKey v) (by decide) hl4 (by omega) (Hp.b (by repeat (first | (with_reducible exact H10) | (with_reducible apply Hp.alloc) | (with_reducible apply Hp.set) | (with_reducible apply Hp.drew) | (with_reducible apply Hp.drewN) | (with_reducible apply Hp.bytesW) | (with_reducible exact Upd.here) | (with_reducible exact Upd.hereR) | (with_reducible apply Upd.there) | (with_reducible apply Sz.alloc) | (with_reducible apply Sz.set) | (with_reducible apply Sz.drew) | (with_reducible apply Sz.drewN) | (with_reducible apply Sz.bytesW) | (with_reducible assumption) | (with_reducible exact Sz.base _)))).size _ rfl ?_; intro g cap wa hown hgrow hat hlt1; have H11 := Hp.appM (by repeat (first | (with_reducible exact H10) | (with_reducible apply Hp.alloc) | (with_reducible apply Hp.set) | (with_reducible apply Hp.drew) | (with_reducible apply Hp.drewN) | (with_reducible apply Hp.bytesW) | (with_reducible exact Upd.here) | (with_reducible exact Upd.hereR) | (with_reducible apply Upd.there) | (with_reducible apply Sz.alloc) | (with_reducible apply Sz.set) | (with_reducible apply Sz.drew) | (with_reducible apply Sz.drewN) | (with_reducible apply Sz.bytesW) | (with_reducible assumption) | (with_reducible exact Sz.base _))) (by repeat (first | (with_reducible exact Rep.here) | (with_reducible apply Rep.there))) hown hgrow hat rfl hlt1; (try simp only [List.set_cons_zero, List.set_cons_succ, List.cons_append, List.nil_append] at H11); have FA := H11.facts; simp only [Facts, NeF, box, row, reg, cellsF, rCert, rCertKey, rInt, ne_eq, true_and, and_true, Nat.reduceAdd, Nat.zero_add] at FA))
            all_goals
              rw [rCertKey_snoc] at H11
              go_wp2_with fail
              go_roundw
              case rel => exact ⟨k + 1, HK1.out.1, by go_num, pb2, rfl, HPB2, ls4, qs2 ++ [v], HN, some ⟨g3, 0, none⟩, cap3, some ⟨g, 0, none⟩, cap, Lib.hid (by simpa using (by refine Hp.sel (by repeat (first | (with_reducible exact H11) | (with_reducible apply Hp.alloc) | (with_reducible apply Hp.set) | (with_reducible apply Hp.drew) | (with_reducible apply Hp.drewN) | (with_reducible apply Hp.bytesW) | (with_reducible exact Upd.here) | (with_reducible exact Upd.hereR) | (with_reducible apply Upd.there) | (with_reducible apply Sz.alloc) | (with_reducible apply Sz.set) | (with_reducible apply Sz.drew) | (with_reducible apply Sz.drewN) | (with_reducible apply Sz.bytesW) | (with_reducible assumption) | (with_reducible exact Sz.base _))) ?_; (try simp only [List.set_cons_zero, List.set_cons_succ]); exact (by repeat (first | (with_reducible exact Sel.nil) | (with_reducible apply Sel.cons) | (with_reducible exact Del.here) | (with_reducible apply Del.there)))))⟩
              case measure => have := HK1.out.2; simp [intOf]; omega
      · focus
          have hke : k = cs.length := by omega
          have HN : Hid (insAt pz (⟨ser, owner, iss, from_, to_, ca, depth, mf⟩ : Cert) cs (k + 1) = ls2 ∧ insAt pz (⟨ser, key⟩ : CertKey) ks (k + 1) = qs2 ∧ ls2.length ≤ k + 1 + 1 ∧ qs2.length ≤ k + 1 + 1) := ⟨(HN2.out hke).1, (HN2.out hke).2, by omega, by omega⟩
          have HK1 : Hid (k + 1 ≤ cs.length + 1 ∧ cs.length + 1 - (k + 1) < cs.length + 1 - k) := ⟨by omega, by omega⟩
          have hk4 : ¬ (k : Int) < (cs.length : Int) := by omega
          clear HN1 HN2 hke
          go_wp2_with fail
          go_roundw
          case rel => exact ⟨k + 1, HK1.out.1, by go_num, pb2, rfl, HPB2, ls2, qs2, HN, A5, d5, A6, d6, Lib.hid (by refine Hp.sel (by repeat (first | (with_reducible exact H) | (with_reducible apply Hp.alloc) | (with_reducible apply Hp.set) | (with_reducible apply Hp.drew) | (with_reducible apply Hp.drewN) | (with_reducible apply Hp.bytesW) | (with_reducible exact Upd.here) | (with_reducible exact Upd.hereR) | (with_reducible apply Upd.there) | (with_reducible apply Sz.alloc) | (with_reducible apply Sz.set) | (with_reducible apply Sz.drew) | (with_reducible apply Sz.drewN) | (with_reducible apply Sz.bytesW) | (with_reducible assumption) | (with_reducible exact Sz.base _))) ?_; (try simp only [List.set_cons_zero, List.set_cons_succ]); exact (by repeat (first | (with_reducible exact Sel.nil) | (with_reducible apply Sel.cons) | (with_reducible exact Del.here) | (with_reducible apply Del.there))))⟩
          case measure => have := HK1.out.2; simp [intOf]; omega
    · focus
        have HF : Hid (r = ⟨ls, qs, 0⟩) := by
          show _ = _
          rw [HE.out, ← x1, ← x2, show k = cs.length + 1 by omega]
          congr 1
          · exact (insAt_fin (i := pz) (k := cs.length + 1) (l := cs) (Nat.lt_succ_self _) (by omega)).symm
          · exact (insAt_fin (i := pz) (k := cs.length + 1) (l := ks) (by have := HKL.out; omega) (by omega)).symm
        have hk3 : ¬ (k : Int) ≤ (cs.length : Int) := by omega
        clear x1 x2 x3 x4 HX HPB hle HE
        go_wp2_with fail
        obtain rfl := HF.out
        refine bodyPost_ret (v := .tuple #[pileV A ls.length d A' qs.length d' G ds.length gd, .int .i64 0]) (by simp [results, Tryz.results7, go_sem, F] <;> omega) rfl ⟨A, d, A', d', G, gd, rfl, (by refine Hp.sel (by repeat (first | (with_reducible exact H) | (with_reducible apply Hp.alloc) | (with_reducible apply Hp.set) | (with_reducible apply Hp.drew) | (with_reducible apply Hp.drewN) | (with_reducible apply Hp.bytesW) | (with_reducible exact Upd.here) | (with_reducible exact Upd.hereR) | (with_reducible apply Upd.there) | (with_reducible apply Sz.alloc) | (with_reducible apply Sz.set) | (with_reducible apply Sz.drew) | (with_reducible apply Sz.drewN) | (with_reducible apply Sz.bytesW) | (with_reducible assumption) | (with_reducible exact Sz.base _))) ?_; (try simp only [List.set_cons_zero, List.set_cons_succ]); exact (by repeat (first | (with_reducible exact Sel.nil) | (with_reducible apply Sel.cons) | (with_reducible exact Del.here) | (with_reducible apply Del.there))))⟩
end Go.Proofs.YtlblkpcjknjijaaGreatDoor

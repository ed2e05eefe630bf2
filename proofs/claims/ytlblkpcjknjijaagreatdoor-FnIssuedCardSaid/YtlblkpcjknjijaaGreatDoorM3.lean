/- The statements' marks: markText. No condition. -/
import Derived.Test.YtlblkpcjknjijaaGreatDoorM2
import Derived.Test.YtlblkpcjknjijaaGreatDoorM1
import Derived.Deep.QuietTactic
import Derived.BigQuiet
import Derived.Deep.RegionHeld3
import Derived.Deep.LoopGhost
import Derived.Shelf.Abstract
import Derived.WalkSpells
import Derived.Lib.Hide
set_option linter.unusedVariables false
set_option linter.unusedSimpArgs false
namespace Go.Proofs.YtlblkpcjknjijaaGreatDoor
open Go.RowKit

/-- The last f decimal digits of a number, none for 0. -/
def dg : Nat → Nat → List UInt8
  | 0, _ => []
  | f + 1, n => if n = 0 then [] else dg f (n / 10) ++ [UInt8.ofNat (48 + n % 10)]
theorem dg_zero (f : Nat) : dg f 0 = [] := by cases f <;> simp [dg]
theorem dg_step {f n : Nat} (hn : 0 < n) (hf : n < 10 ^ f) : ∃ g, f = g + 1 ∧ n / 10 < 10 ^ g ∧ dg f n = dg g (n / 10) ++ [UInt8.ofNat (48 + n % 10)] := by
  cases f with
  | zero => simp at hf; omega
  | succ g => exact ⟨g, rfl, by rw [Nat.pow_succ] at hf; omega, by rw [dg, if_neg (by omega)]⟩
def mkText (x : Nat) : ByteArray := ⟨(109 :: dg 20 x).toArray⟩

end Go.Proofs.YtlblkpcjknjijaaGreatDoor
namespace Go.Proofs.YtlblkpcjknjijaaGreatDoor
open Go.RowKit

structure Cert where
  ser : Int
  owner : ByteArray
  iss : Int
  from_ : Int
  to_ : Int
  ca : Bool
  depth : Int
  mark : Int
def encCert (x : Cert) : List Value := [.int .i64 x.ser, .string x.owner, .int .i64 x.iss, .int .i64 x.from_, .int .i64 x.to_, .bool x.ca, .int .i64 x.depth, .int .i64 x.mark]
theorem encCert_len (x : Cert) : (encCert x).length = 8 := rfl
def CertFits (x : Cert) : Prop := x.owner.size ≤ maxLen
theorem CertFits.owner {x : Cert} (h : CertFits x) : x.owner.size ≤ maxLen := h
def szCert (x : Cert) : Nat := x.owner.size
def sumCert (us : List Cert) : Nat := (us.map szCert).sum
theorem sumCert_take {us : List Cert} {k : Nat} (h : k < us.length) : sumCert (us.take (k + 1)) = sumCert (us.take k) + szCert us[k] := by
  rw [sumCert, sumCert, List.take_succ_eq_append_getElem h, List.map_append, List.sum_append, List.map_cons, List.map_nil, List.sum_cons, List.sum_nil, Nat.add_zero]
theorem sumCert_le (us : List Cert) (k : Nat) : sumCert (us.take k) ≤ sumCert us := by
  have h : sumCert us = sumCert (us.take k) + sumCert (us.drop k) := by rw [sumCert, sumCert, sumCert, ← List.sum_append, ← List.map_append, List.take_append_drop]
  omega

theorem Tryz.infoCert : (Tryz.prog.info? 30).map (fun i => (i.zero, i.size, i.bytes)) = some (some (.agg #[.int .i64 0, .string ByteArray.empty, .int .i64 0, .int .i64 0, .int .i64 0, .bool false, .int .i64 0, .int .i64 0]), 8, 72) := by kernel_rfl
def markCertE (m i : Nat) : List Value := [.int .i64 ((m : Int) + (i : Int) * 8), .string (mkText (m + i * 8 + 1)), .int .i64 ((m : Int) + (i : Int) * 8 + 2), .int .i64 ((m : Int) + (i : Int) * 8 + 3), .int .i64 ((m : Int) + (i : Int) * 8 + 4), .bool (((m : Int) + (i : Int) * 8 + 1 + 1 + 1 + 1 + 1) % 3 == 0), .int .i64 ((m : Int) + (i : Int) * 8 + 6), .int .i64 ((m : Int) + (i : Int) * 8 + 7)]
theorem markCertE_len (m : Nat) (i : Nat) : (markCertE m i).length = 8 := rfl
def marksCert (m n : Nat) : List Value := (List.range n).flatMap (markCertE m)


end Go.Proofs.YtlblkpcjknjijaaGreatDoor
namespace Go.Proofs.YtlblkpcjknjijaaGreatDoor
open Go.RowKit
set_option linter.unusedVariables false

abbrev rCert (A : Option Addr) (c : Nat) (us : List Cert) : Ent := row 30 8 (.slice A us.length c) us.length (us.flatMap encCert)
theorem rCert_snoc (A : Option Addr) (c : Nat) (us : List Cert) (u : Cert) : row 30 8 (.slice A (us.length + 1) c) (us.length + 1) (us.flatMap encCert ++ encCert u) = rCert A c (us ++ [u]) := by simp [rCert]
theorem oneCert (u : Cert) : ∀ x ∈ encCert u, x.oneCell' = true := by intro x hx; simp [encCert] at hx; rcases hx with rfl | rfl | rfl | rfl | rfl | rfl | rfl | rfl <;> rfl
end Go.Proofs.YtlblkpcjknjijaaGreatDoor
namespace Go.Proofs.YtlblkpcjknjijaaGreatDoor
open Go.RowKit

structure CertKey where
  ser : Int
  key : Int
def encCertKey (x : CertKey) : List Value := [.int .i64 x.ser, .int .i64 x.key]
theorem encCertKey_len (x : CertKey) : (encCertKey x).length = 2 := rfl
def CertKeyFits (x : CertKey) : Prop := x = x
def szCertKey (x : CertKey) : Nat := 0
def sumCertKey (us : List CertKey) : Nat := (us.map szCertKey).sum
theorem sumCertKey_take {us : List CertKey} {k : Nat} (h : k < us.length) : sumCertKey (us.take (k + 1)) = sumCertKey (us.take k) + szCertKey us[k] := by
  rw [sumCertKey, sumCertKey, List.take_succ_eq_append_getElem h, List.map_append, List.sum_append, List.map_cons, List.map_nil, List.sum_cons, List.sum_nil, Nat.add_zero]
theorem sumCertKey_le (us : List CertKey) (k : Nat) : sumCertKey (us.take k) ≤ sumCertKey us := by
  have h : sumCertKey us = sumCertKey (us.take k) + sumCertKey (us.drop k) := by rw [sumCertKey, sumCertKey, sumCertKey, ← List.sum_append, ← List.map_append, List.take_append_drop]
  omega

theorem Tryz.infoCertKey : (Tryz.prog.info? 57).map (fun i => (i.zero, i.size, i.bytes)) = some (some (.agg #[.int .i64 0, .int .i64 0]), 2, 16) := by kernel_rfl
def markCertKeyE (m i : Nat) : List Value := [.int .i64 ((m : Int) + (i : Int) * 2), .int .i64 ((m : Int) + (i : Int) * 2 + 1)]
theorem markCertKeyE_len (m : Nat) (i : Nat) : (markCertKeyE m i).length = 2 := rfl
def marksCertKey (m n : Nat) : List Value := (List.range n).flatMap (markCertKeyE m)


end Go.Proofs.YtlblkpcjknjijaaGreatDoor
namespace Go.Proofs.YtlblkpcjknjijaaGreatDoor
open Go.RowKit
set_option linter.unusedVariables false

abbrev rCertKey (A : Option Addr) (c : Nat) (us : List CertKey) : Ent := row 57 2 (.slice A us.length c) us.length (us.flatMap encCertKey)
theorem rCertKey_snoc (A : Option Addr) (c : Nat) (us : List CertKey) (u : CertKey) : row 57 2 (.slice A (us.length + 1) c) (us.length + 1) (us.flatMap encCertKey ++ encCertKey u) = rCertKey A c (us ++ [u]) := by simp [rCertKey]
theorem oneCertKey (u : CertKey) : ∀ x ∈ encCertKey u, x.oneCell' = true := by intro x hx; simp [encCertKey] at hx; rcases hx with rfl | rfl <;> rfl
end Go.Proofs.YtlblkpcjknjijaaGreatDoor
namespace Go.Proofs.YtlblkpcjknjijaaGreatDoor
open Go.RowKit
set_option linter.unusedVariables false

theorem encCert_one : ∀ us : List Cert, ∀ u ∈ us.flatMap encCert, u.oneCell' = true := by
  intro us u hu
  obtain ⟨x, _, hx⟩ := List.mem_flatMap.1 hu
  simp only [encCert, List.mem_cons, List.not_mem_nil, or_false] at hx
  rcases hx with rfl | rfl | rfl | rfl | rfl | rfl | rfl | rfl <;> rfl

set_option maxHeartbeats 1000000 in
theorem cloneCert_any (A : Option Addr) (n c : Nat) (us : List Cert) (w : World) (hr : Rd w w.heap.size 8 A n c (us.flatMap encCert)) (hn : us.length = n) (hb20 : n ≤ 1048576) :
    Calls Tryz.prog 56 #[.slice A n c] w fun e w' => ∃ A' c', e = .returned (.slice A' n c') ∧ Own w' w.heap.size w'.heap.size 30 8 (.slice A' n c') n (us.flatMap encCert) ∧ Below w.heap.size w w' := by
  obtain ⟨i0, hi, hz0, hz1, hz2⟩ := info_parts Tryz.infoCert
  have hm := hr.2.2.1
  have hc := hr.2.1
  unfold maxLen at hm
  cases A with
  | none =>
    obtain ⟨rfl, rfl⟩ := hr.none_nil hn
    have q := fun (W : World) => Lib.run_eql_slice_nil (P := Tryz.prog) W 24 _ none 0 c 0 0 Tryz.underlying24
    go_enter Tryz.func56, Tryz.ntmps56
    go_wp2
    go_ret
    exact ⟨none, 0, rfl, Own.nil_ _ _ _, Below.refl _ _⟩
  | some ad =>
    have q := fun (W : World) => Lib.run_eql_slice_nil (P := Tryz.prog) W 24 _ (some ad) n c 0 0 Tryz.underlying24
    have hl := hr.1
    have hcs : ∀ W, Below w.heap.size w W → ∀ j u, (us.flatMap encCert)[j]? = some u → W.cell? (ad.add j) = some u := fun W h => hr.cells_some h
    go_enter Tryz.func56, Tryz.ntmps56
    go_wp2_with (at_builtin; refine wpList_append_own _ rfl _ _ 24 rfl w.heap.size 30 i0 _ 8 _ Tryz.underlying24 hi hz0 hz1 hz2 rfl (by decide) _ _ _ rfl (World.ownsRow_made w #[] 0 (Nat.le_refl _) (Nat.zero_le _) (by simp)) ad n c (us.flatMap encCert) rfl ?qc1 ?qc2 ?qc3 ?qc4 ?qc5 ?qc6 ?_)
    case qc1 => exact hl
    case qc2 => exact hcs _ (below_alloc _ _)
    case qc3 => exact encCert_one us
    case qc4 => unfold maxLen; omega
    case qc5 => omega
    case qc6 => simp
    intro v' w1 hown hgrow hnil
    go_wp2
    go_ret
    have hown' : w1.ownsRow w.heap.size 30 8 v' n (us.flatMap encCert) := by simpa using hown
    obtain ⟨A', c', rfl, -, -⟩ := own_rd hown'
    exact ⟨A', c', rfl, Own.of hown', ((Below.refl _ w).alloc (Nat.le_refl _) _).grown hgrow (by simp) (by intro k hk; simp [Value.ownBlock] at hk; omega)⟩

end Go.Proofs.YtlblkpcjknjijaaGreatDoor
namespace Go.Proofs.YtlblkpcjknjijaaGreatDoor
open Go.RowKit
set_option linter.unusedVariables false

/-- How many stand ahead of the target; whether the one there is it. -/
def bsAt {α : Type} (cf : α → Int) (us : List α) : Nat := us.countP (fun x => decide (cf x < 0))
def bsHit {α : Type} (cf : α → Int) (us : List α) : Bool := ((us[bsAt cf us]?).map (fun x => decide (cf x = 0))).getD false
theorem countP_edge {α : Type} (p : α → Bool) : ∀ (l : List α) (i : Nat), i ≤ l.length → (∀ t (h : t < l.length), t < i → p l[t] = true) → (∀ t (h : t < l.length), i ≤ t → p l[t] = false) → l.countP p = i
  | [], i, hi, _, _ => by simp at hi; simp [hi]
  | a :: r, 0, _, _, h2 => by
    rw [List.countP_eq_zero]
    intro x hx
    obtain ⟨t, ht, rfl⟩ := List.getElem_of_mem hx
    simp [h2 t ht (Nat.zero_le _)]
  | a :: r, i + 1, hi, h1, h2 => by
    have ha : p a = true := h1 0 (by simp) (Nat.succ_pos _)
    rw [List.countP_cons_of_pos ha, countP_edge p r i (by simpa using hi) (fun t h ht => h1 (t + 1) (by simpa using h) (by omega)) (fun t h h3 => h2 (t + 1) (by simpa using h) (by omega))]

/-- What is asked of a comparison: it answers, and leaves what was there. -/
def CmpCert (g : Nat) (cb : Array Value) (s : Int) (cf : Cert → Int) (w : World) : Prop := ∀ (W : World) (x : Cert), Below w.heap.size w W → Calls Tryz.prog g (#[.agg #[.int .i64 x.ser, .string x.owner, .int .i64 x.iss, .int .i64 x.from_, .int .i64 x.to_, .bool x.ca, .int .i64 x.depth, .int .i64 x.mark], .int .i64 s] ++ cb) W fun e w' => e = .returned (.int .i64 (cf x)) ∧ Below W.heap.size W w'
def BsLo (cf : Cert → Int) (us : List Cert) (lo : Nat) : Prop := ∀ t (h : t < us.length), t < lo → cf us[t] < 0
def BsHi (cf : Cert → Int) (us : List Cert) (hi : Nat) : Prop := ∀ t (h : t < us.length), hi ≤ t → ¬ cf us[t] < 0
set_option maxHeartbeats 4000000 in
set_option maxRecDepth 100000 in
theorem bsCert_any (g : Nat) (cb : Array Value) (s : Int) (cf : Cert → Int) (eg : ∀ args w, (callFunc g args).run Tryz.prog w = .ok (.enter g args) w) (A : Option Addr) (n c : Nat) (us : List Cert) (w : World) (hp : CmpCert g cb s cf w) (hr : Rd w w.heap.size 8 A n c (us.flatMap encCert)) (hn : us.length = n) (hb20 : n ≤ 1048576)
    (hmono : ∀ a b (hb : b < us.length) (hab : a ≤ b), cf us[b] < 0 → cf (us[a]'(by omega)) < 0) :
    Calls Tryz.prog 61 #[.slice A n c, .int .i64 s, .func (.func g) #[] cb] w fun e w' => e = .returned (.tuple #[.int .i64 (bsAt cf us : Nat), .bool (bsHit cf us)]) ∧ Below w.heap.size w w' := by
  have hc := hr.2.1
  have hm := hr.2.2.1
  unfold maxLen at hm
  have HP := Lib.hid hp; clear hp
  have HM : Hid (∀ a b (hb : b < us.length) (hab : a ≤ b), cf us[b] < 0 → cf (us[a]'(by omega)) < 0) := hmono
  clear hmono
  go_enter Tryz.func61, Tryz.ntmps61
  go_wp2_with fail
  go_loopg [9, 10] n (fun kx s9 s10 wr => ∃ lo hi : Nat, s9 = .int .i64 lo ∧ s10 = .int .i64 hi ∧ lo ≤ hi ∧ hi ≤ n ∧ hi - lo ≤ kx ∧ Below w.heap.size w wr ∧ Hid (BsLo cf us lo) ∧ Hid (BsHi cf us hi))
  case atStart => exact ⟨0, n, rfl, rfl, Nat.zero_le _, Nat.le_refl _, by omega, Below.refl _ _, fun t h ht => absurd ht (Nat.not_lt_zero _), fun t h ht => by omega⟩
  case round =>
    obtain ⟨lo, hi, rfl, rfl, hlh, hin, hg, HB, I1, I2⟩ := hrel
    have hz := HB.size
    by_cases hlt : lo < hi
    · have hmid : (lo + hi) / 2 < n := by omega
      obtain ⟨b, off, rfl, hb, hcell⟩ := hr.elem encCert_len hn hmid
      have c0 := HB.cell (p := ⟨b, off + (lo + hi) / 2 * 8 + 0, none⟩) hb |>.trans (hcell 0 _ rfl)
      have c1 := HB.cell (p := ⟨b, off + (lo + hi) / 2 * 8 + 1, none⟩) hb |>.trans (hcell 1 _ rfl)
      have c2 := HB.cell (p := ⟨b, off + (lo + hi) / 2 * 8 + 2, none⟩) hb |>.trans (hcell 2 _ rfl)
      have c3 := HB.cell (p := ⟨b, off + (lo + hi) / 2 * 8 + 3, none⟩) hb |>.trans (hcell 3 _ rfl)
      have c4 := HB.cell (p := ⟨b, off + (lo + hi) / 2 * 8 + 4, none⟩) hb |>.trans (hcell 4 _ rfl)
      have c5 := HB.cell (p := ⟨b, off + (lo + hi) / 2 * 8 + 5, none⟩) hb |>.trans (hcell 5 _ rfl)
      have c6 := HB.cell (p := ⟨b, off + (lo + hi) / 2 * 8 + 6, none⟩) hb |>.trans (hcell 6 _ rfl)
      have c7 := HB.cell (p := ⟨b, off + (lo + hi) / 2 * 8 + 7, none⟩) hb |>.trans (hcell 7 _ rfl)
      simp only [Nat.add_zero] at c0
      have hcall := HP.out wr (us[(lo + hi) / 2]'(by omega)) HB
      by_cases hyx : cf (us[(lo + hi) / 2]'(by omega)) < 0
      · have N1 : Hid (BsLo cf us ((lo + hi) / 2 + 1)) := fun t h ht => HM.out t ((lo + hi) / 2) (by omega) (by omega) hyx
        clear hcell
        generalize us[(lo + hi) / 2]'(by omega) = y at c0 c1 c2 c3 c4 c5 c6 c7 hcall hyx
        have HC := Lib.hid hcall; clear hcall
        go_wp2_with (go_at_fn g; refine HC.out.mono ?_; rintro e w1 ⟨rfl, hb1⟩)
        go_roundg (hi - ((lo + hi) / 2 + 1))
        case measure => omega
        case rel => exact ⟨(lo + hi) / 2 + 1, hi, by rw [show ((lo : Int) + (hi : Int)) / 2 + 1 = (((lo + hi) / 2 + 1 : Nat) : Int) by omega], rfl, by omega, hin, Nat.le_refl _, blift HB hb1 hz, N1, I2⟩
      · have N2 : Hid (BsHi cf us ((lo + hi) / 2)) := fun t h ht hlt0 => hyx (HM.out ((lo + hi) / 2) t h ht hlt0)
        clear hcell
        generalize us[(lo + hi) / 2]'(by omega) = y at c0 c1 c2 c3 c4 c5 c6 c7 hcall hyx
        have HC := Lib.hid hcall; clear hcall
        go_wp2_with (go_at_fn g; refine HC.out.mono ?_; rintro e w1 ⟨rfl, hb1⟩)
        go_roundg ((lo + hi) / 2 - lo)
        case measure => omega
        case rel => exact ⟨lo, (lo + hi) / 2, rfl, by rw [show ((lo : Int) + (hi : Int)) / 2 = (((lo + hi) / 2 : Nat) : Int) by omega], by omega, by omega, Nat.le_refl _, blift HB hb1 hz, I1, N2⟩
    · obtain rfl : hi = lo := by omega
      have EA : Hid (bsAt cf us = hi) := countP_edge _ us hi (by omega) (fun t h ht => decide_eq_true (I1.out t h ht)) (fun t h ht => decide_eq_false (I2.out t h ht))
      by_cases hlt2 : hi < n
      · obtain ⟨b, off, rfl, hb, hcell⟩ := hr.elem encCert_len hn hlt2
        have c0 := HB.cell (p := ⟨b, off + hi * 8 + 0, none⟩) hb |>.trans (hcell 0 _ rfl)
        have c1 := HB.cell (p := ⟨b, off + hi * 8 + 1, none⟩) hb |>.trans (hcell 1 _ rfl)
        have c2 := HB.cell (p := ⟨b, off + hi * 8 + 2, none⟩) hb |>.trans (hcell 2 _ rfl)
        have c3 := HB.cell (p := ⟨b, off + hi * 8 + 3, none⟩) hb |>.trans (hcell 3 _ rfl)
        have c4 := HB.cell (p := ⟨b, off + hi * 8 + 4, none⟩) hb |>.trans (hcell 4 _ rfl)
        have c5 := HB.cell (p := ⟨b, off + hi * 8 + 5, none⟩) hb |>.trans (hcell 5 _ rfl)
        have c6 := HB.cell (p := ⟨b, off + hi * 8 + 6, none⟩) hb |>.trans (hcell 6 _ rfl)
        have c7 := HB.cell (p := ⟨b, off + hi * 8 + 7, none⟩) hb |>.trans (hcell 7 _ rfl)
        simp only [Nat.add_zero] at c0
        have hcall := HP.out wr (us[hi]'(by omega)) HB
        have EH : Hid (bsHit cf us = decide (cf (us[hi]'(by omega)) = 0)) := by
          show _ = _
          rw [bsHit, EA.out, List.getElem?_eq_getElem (by omega : hi < us.length)]; rfl
        clear hcell
        generalize us[hi]'(by omega) = y at c0 c1 c2 c3 c4 c5 c6 c7 hcall EH
        have HC := Lib.hid hcall; clear hcall
        by_cases hyx : cf y = 0
        · go_wp2_with (go_at_fn g; refine HC.out.mono ?_; rintro e w1 ⟨rfl, hb1⟩)
          go_ret2
          exact ⟨by rw [EA.out, EH.out]; simp [hyx], blift HB hb1 hz⟩
        · go_wp2_with (go_at_fn g; refine HC.out.mono ?_; rintro e w1 ⟨rfl, hb1⟩)
          go_ret2
          exact ⟨by rw [EA.out, EH.out]; simp [hyx], blift HB hb1 hz⟩
      · have EH : Hid (bsHit cf us = false) := by
          show _ = _
          rw [bsHit, EA.out, List.getElem?_eq_none (by omega)]; rfl
        go_wp2
        go_ret2
        exact ⟨by rw [EA.out, EH.out]; simp, HB⟩
end Go.Proofs.YtlblkpcjknjijaaGreatDoor
namespace Go.Proofs.YtlblkpcjknjijaaGreatDoor
open Go.RowKit
set_option linter.unusedVariables false

theorem encCertKey_one : ∀ us : List CertKey, ∀ u ∈ us.flatMap encCertKey, u.oneCell' = true := by
  intro us u hu
  obtain ⟨x, _, hx⟩ := List.mem_flatMap.1 hu
  simp only [encCertKey, List.mem_cons, List.not_mem_nil, or_false] at hx
  rcases hx with rfl | rfl <;> rfl

set_option maxHeartbeats 1000000 in
theorem cloneCertKey_any (A : Option Addr) (n c : Nat) (us : List CertKey) (w : World) (hr : Rd w w.heap.size 2 A n c (us.flatMap encCertKey)) (hn : us.length = n) (hb20 : n ≤ 1048576) :
    Calls Tryz.prog 57 #[.slice A n c] w fun e w' => ∃ A' c', e = .returned (.slice A' n c') ∧ Own w' w.heap.size w'.heap.size 57 2 (.slice A' n c') n (us.flatMap encCertKey) ∧ Below w.heap.size w w' := by
  obtain ⟨i0, hi, hz0, hz1, hz2⟩ := info_parts Tryz.infoCertKey
  have hm := hr.2.2.1
  have hc := hr.2.1
  unfold maxLen at hm
  cases A with
  | none =>
    obtain ⟨rfl, rfl⟩ := hr.none_nil hn
    have q := fun (W : World) => Lib.run_eql_slice_nil (P := Tryz.prog) W 25 _ none 0 c 0 0 Tryz.underlying25
    go_enter Tryz.func57, Tryz.ntmps57
    go_wp2
    go_ret
    exact ⟨none, 0, rfl, Own.nil_ _ _ _, Below.refl _ _⟩
  | some ad =>
    have q := fun (W : World) => Lib.run_eql_slice_nil (P := Tryz.prog) W 25 _ (some ad) n c 0 0 Tryz.underlying25
    have hl := hr.1
    have hcs : ∀ W, Below w.heap.size w W → ∀ j u, (us.flatMap encCertKey)[j]? = some u → W.cell? (ad.add j) = some u := fun W h => hr.cells_some h
    go_enter Tryz.func57, Tryz.ntmps57
    go_wp2_with (at_builtin; refine wpList_append_own _ rfl _ _ 25 rfl w.heap.size 57 i0 _ 2 _ Tryz.underlying25 hi hz0 hz1 hz2 rfl (by decide) _ _ _ rfl (World.ownsRow_made w #[] 0 (Nat.le_refl _) (Nat.zero_le _) (by simp)) ad n c (us.flatMap encCertKey) rfl ?qc1 ?qc2 ?qc3 ?qc4 ?qc5 ?qc6 ?_)
    case qc1 => exact hl
    case qc2 => exact hcs _ (below_alloc _ _)
    case qc3 => exact encCertKey_one us
    case qc4 => unfold maxLen; omega
    case qc5 => omega
    case qc6 => simp
    intro v' w1 hown hgrow hnil
    go_wp2
    go_ret
    have hown' : w1.ownsRow w.heap.size 57 2 v' n (us.flatMap encCertKey) := by simpa using hown
    obtain ⟨A', c', rfl, -, -⟩ := own_rd hown'
    exact ⟨A', c', rfl, Own.of hown', ((Below.refl _ w).alloc (Nat.le_refl _) _).grown hgrow (by simp) (by intro k hk; simp [Value.ownBlock] at hk; omega)⟩

end Go.Proofs.YtlblkpcjknjijaaGreatDoor

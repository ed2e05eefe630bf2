/- Chains of certificates, in plain words. No condition. -/
import Derived.Test.YtlblkpcjknjijaaGreatDoorKillP
import Derived.Test.YtlblkpcjknjijaaGreatDoorM4
import Derived.Test.YtlblkpcjknjijaaGreatDoorCertM
import Derived.Test.YtlblkpcjknjijaaGreatDoorM3
import Derived.Test.YtlblkpcjknjijaaGreatDoorKillA
set_option linter.unusedVariables false
set_option linter.unusedSimpArgs false
namespace Go.Proofs.YtlblkpcjknjijaaGreatDoor
open Go.RowKit
set_option linter.unusedVariables false
def zeroC : Cert := ⟨0, ByteArray.empty, 0, 0, 0, false, 0, 0⟩
def aboveC (up c : Cert) : Bool := up.ca && (!c.ca || decide (c.depth < up.depth))
def belChk : Option Cert → Cert → Int → Int
  | none, _, _ => 0
  | some b, c, key => if aboveC c b = false then 5 else if underF c.owner b.owner = false then 6 else if b.mark = markF b key then 0 else 7
def chainAt (ds : List Int) (now : Int) (rec : List Int → Option Cert → Int → List Int × Int) (way : List Int) (bel : Option Cert) (x : Int) (c : Cert) (key : Int) : List Int × Int :=
  if way.length = 6 then ([], 8) else if hasI ds x = true then ([], 4) else if inR now c.from_ c.to_ = false then ([], 3)
  else if belChk bel c key = 0 then (if c.iss = 0 then (if c.mark = markF c key then (way ++ [x], 0) else ([], 7)) else rec (way ++ [x]) (some c) c.iss)
  else ([], belChk bel c key)
def chainGo (cs : List Cert) (ks : List CertKey) (ds : List Int) (now : Int) : Nat → List Int → Option Cert → Int → List Int × Int
  | 0, _, _, _ => ([], 8)
  | f + 1, way, bel, x => if ixP (hasSer x) cs 0 < 0 then ([], 2) else chainAt ds now (chainGo cs ks ds now f) way bel x ((cs[(ixP (hasSer x) cs 0).toNat]?).getD zeroC) (((ks[(ixP (hasSer x) cs 0).toNat]?).map (·.key)).getD 0)
def chainU (cs : List Cert) (ks : List CertKey) (ds : List Int) (x now : Int) : List Int × Int := if pileOk cs ks ds = true then chainGo cs ks ds now 7 [] none x else ([], 1)
section
variable {cs : List Cert} {ks : List CertKey} {ds way : List Int} {now x : Int} {bel : Option Cert} {f i : Nat}
theorem chain_none (h : ixP (hasSer x) cs 0 = -1) : chainGo cs ks ds now (f + 1) way bel x = ([], 2) := by rw [chainGo, h, if_pos (by omega)]
theorem chain_hit (hi : i < cs.length) (hk : i < ks.length) (h : ixP (hasSer x) cs 0 = (i : Int)) : chainGo cs ks ds now (f + 1) way bel x = chainAt ds now (chainGo cs ks ds now f) way bel x cs[i] ks[i].key := by
  rw [chainGo, h, if_neg (by omega), Int.toNat_natCast, List.getElem?_eq_getElem hi, List.getElem?_eq_getElem hk]; rfl
theorem bsAt_of (h : pileOk cs ks ds = true) (hi : i < cs.length) (he : cs[i].ser = x) : bsAt (cfSer x) cs = i := by
  have hlt : ∀ c : Cert, cfSer x c < 0 ↔ c.ser < x := by
    intro c
    unfold cfSer Go.Lib.compareInt
    split <;> (try split) <;> omega
  obtain ⟨-, hkl, -, -, hpr⟩ := pile_iff h
  exact countP_edge _ cs i (by omega)
      (fun t ht hti => decide_eq_true ((hlt _).2 (by rw [← he]; exact cert_lt hpr hkl hi hti)))
      (fun t ht hit => decide_eq_false (fun h0 => by
        rw [hlt] at h0
        rcases Nat.lt_or_ge i t with h3 | h3
        · have := cert_lt hpr hkl ht h3; omega
        · have : t = i := by omega
          subst this; omega))
end
theorem chainAt_len {ds way : List Int} {now x key : Int} {bel : Option Cert} {c : Cert} {rec : List Int → Option Cert → Int → List Int × Int} (hr : ∀ w b y, w.length ≤ way.length + 1 → (rec w b y).1.length ≤ 7) (hw : way.length ≤ 6) : (chainAt ds now rec way bel x c key).1.length ≤ 7 := by
  unfold chainAt
  split
  · simp
  · split
    · simp
    · split
      · simp
      · split
        · split
          · split
            · simp; omega
            · simp
          · exact hr _ _ _ (by simp)
        · simp
theorem chainGo_len (cs : List Cert) (ks : List CertKey) (ds : List Int) (now : Int) : ∀ (f : Nat) (way : List Int) (bel : Option Cert) (x : Int), way.length + f ≤ 7 → (chainGo cs ks ds now f way bel x).1.length ≤ 7
  | 0, way, bel, x, h => by simp [chainGo]
  | f + 1, way, bel, x, h => by
    rw [chainGo]
    split
    · simp
    · exact chainAt_len (fun w b y hw => by
        exact chainGo_len cs ks ds now f w b y (by omega)) (by omega)
theorem chainU_len (cs : List Cert) (ks : List CertKey) (ds : List Int) (x now : Int) : (chainU cs ks ds x now).1.length ≤ 7 := by
  unfold chainU
  split
  · exact chainGo_len cs ks ds now 7 [] none x (by simp)
  · simp
end Go.Proofs.YtlblkpcjknjijaaGreatDoor

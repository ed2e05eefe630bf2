/- Contracts of the small functions: ranges, keys, names. No condition. -/
import Derived.Test.YtlmmeeeoljlgcaaDoorProg
import Derived.Test.YtlmmeeeoljlgcaaDoorM1
import Derived.Test.YtlmmeeeoljlgcaaDoorShelf
import Derived.WalkKit
import Derived.WalkSpells
import Derived.WalkLawsBesides
import Derived.Lib.Hide
import Derived.Handy
import Derived.Lib.AtoiErrMem
import Derived.Lib.AppendStr
import Derived.Lib.AppendZeros
import Derived.Deep.AppendLies
import Derived.Deep.QuietTactic
import Derived.BigQuiet
import Derived.Deep.RegionWith
import Derived.Deep.RegionHeld3
import Derived.Deep.DeepCutAuto
set_option linter.unusedVariables false
set_option linter.unusedSimpArgs false
namespace Go.Proofs.YtlmmeeeoljlgcaaDoor
open Go.RowKit

set_option maxHeartbeats 400000 in
theorem l01In_any (x lo hi : Int) (w : World) :
    Calls Tryd.prog 77 #[.int .i64 x, .int .i64 lo, .int .i64 hi] w fun e w' => e = .returned (.bool (inR x lo hi)) ∧ w = w' := by
  by_cases h1 : lo ≤ x
  · by_cases h2 : x ≤ hi
    · go_enter Tryd.func77, Tryd.ntmps77
      go_wp2
      go_ret
      simp [inR, h1, h2]
    · go_enter Tryd.func77, Tryd.ntmps77
      go_wp2
      go_ret
      simp [inR, h1, h2]
  · go_enter Tryd.func77, Tryd.ntmps77
    go_wp2
    go_ret
    simp [inR]; omega
set_option maxHeartbeats 400000 in
theorem within_any (x lo hi : Int) (w : World) :
    Calls Tryd.prog 78 #[.int .i64 x, .int .i64 lo, .int .i64 hi] w fun e w' => e = .returned (.bool (inR x lo hi)) ∧ w = w' := by
  by_cases h1 : lo ≤ x
  · by_cases h2 : x ≤ hi
    · go_enter Tryd.func78, Tryd.ntmps78
      go_wp2
      go_ret
      simp [inR, h1, h2]
    · go_enter Tryd.func78, Tryd.ntmps78
      go_wp2
      go_ret
      simp [inR, h1, h2]
  · go_enter Tryd.func78, Tryd.ntmps78
    go_wp2
    go_ret
    simp [inR]; omega

theorem IndexByte_any (s : ByteArray) (b : UInt8) (w : World) :
    Calls Tryd.prog 91 #[.string s, .int .u8 b.toNat] w fun e w' => e = .returned (.int .i64 (Lib.indexByte s.data.toList b)) ∧ w = w' := by
  refine (Go.Proofs.Tryd.strings_IndexByte s b.toNat w).mono fun e w' ⟨h1, h2⟩ => ⟨?_, h2.symm⟩
  rw [h1]; simp
def inSet (al : List UInt8) (b : UInt8) : Bool := !decide (Lib.indexByte al b < 0)
theorem inSet_true {al : List UInt8} {b : UInt8} : inSet al b = true ↔ ¬ Lib.indexByte al b < 0 := by simp [inSet]
theorem inSet_false {al : List UInt8} {b : UInt8} : inSet al b = false ↔ Lib.indexByte al b < 0 := by simp [inSet]
set_option maxHeartbeats 1000000 in
theorem onlyOf_any (s al : ByteArray) (w : World) (hs : s.size ≤ maxLen) :
    Calls Tryd.prog 83 #[.string s, .string al] w fun e w' => e = .returned (.bool (allB (inSet al.data.toList) s)) ∧ w = w' := by
  unfold maxLen at hs
  go_enter Tryd.func83, Tryd.ntmps83
  go_wp2_with fail
  go_loop [8] (fun i => ∃ k : Nat, k ≤ s.size ∧ i = .int .i64 k ∧ Hid ((s.data.toList.take k).all (inSet al.data.toList) = true)) (fun i => s.size - (intOf i).toNat)
  case atStart => exact ⟨0, Nat.zero_le _, rfl, rfl⟩
  case round =>
    obtain ⟨k, hk, rfl, HA⟩ := hrel
    by_cases hlt : k < s.size
    · go_wp2_with (go_at_call 91; refine (IndexByte_any _ _ _).mono ?_; rintro e w' ⟨rfl, rfl⟩; generalize hv : Lib.indexByte al.data.toList s[k] = v; have HV := Lib.hid hv; clear hv)
      all_goals first
        | (go_round; (case rel => exact ⟨k + 1, by omega, by go_num, allB_snoc _ hlt HA.out (by rw [inSet_true, HV.out]; omega)⟩); (case measure => simp [intOf]; omega))
        | (go_ret; exact ⟨by rw [allB_at _ hlt (by rw [inSet_false, HV.out]; omega)]; simp, rfl⟩)
    · have HE : Hid (allB (inSet al.data.toList) s = true) := allB_end _ hk hlt HA.out
      go_wp2
      go_ret
      exact ⟨by rw [HE.out]; simp, rfl⟩
end Go.Proofs.YtlmmeeeoljlgcaaDoor
namespace Go.Proofs.YtlmmeeeoljlgcaaDoor
open Go.RowKit

/-- The first place at which p holds; -1 where there is none. -/
def ixP {α : Type} (p : α → Bool) : List α → Nat → Int
  | [], _ => -1
  | x :: xs, k => if p x then k else ixP p xs (k + 1)
/-- Whether a number is in a list. -/
def hasI (xs : List Int) (x : Int) : Bool := xs.contains x
theorem hasI_iff {xs : List Int} {x : Int} : hasI xs x = true ↔ x ∈ xs := by rw [hasI, List.contains_iff_mem]
def anyP {α : Type} (p : α → Bool) (xs : List α) : Bool := xs.any p
section
variable {α : Type} {p : α → Bool} {us : List α} {k j : Nat}
theorem ixP_skip (hk : k < us.length) (h : p us[k] = false) : ixP p (us.drop k) j = ixP p (us.drop (k + 1)) (j + 1) := by
  rw [List.drop_eq_getElem_cons hk, ixP, h]; simp
theorem ixP_hit (hk : k < us.length) (h : p us[k] = true) : ixP p (us.drop k) j = j := by
  rw [List.drop_eq_getElem_cons hk, ixP, h]; simp
end
theorem ixP_any {α : Type} (p : α → Bool) (us : List α) : ∀ k : Nat, (0 ≤ ixP p us k ↔ anyP p us = true) := by
  induction us with
  | nil => intro k; simp [ixP, anyP]
  | cons u us ih =>
    intro k
    rw [ixP, anyP, List.any_cons]
    cases h : p u with
    | true => simp
    | false =>
      simp only [Bool.false_eq_true, if_false, Bool.false_or]
      rw [ih (k + 1), anyP]
theorem ixP_spec {α : Type} (p : α → Bool) (us : List α) : ∀ k : Nat, (ixP p us k = -1 ∧ ∀ u ∈ us, p u = false) ∨ ∃ i, ∃ h : i < us.length, ixP p us k = ((k + i : Nat) : Int) ∧ p us[i] = true ∧ ∀ j (hj : j < i), p (us[j]'(by omega)) = false := by
  induction us with
  | nil => intro k; exact .inl ⟨rfl, fun _ h => by cases h⟩
  | cons u us ih =>
    intro k
    rw [ixP]
    by_cases h : p u = true
    · exact .inr ⟨0, by simp, by rw [if_pos h]; simp, h, fun j hj => absurd hj (Nat.not_lt_zero _)⟩
    · rw [if_neg h]
      rcases ih (k + 1) with ⟨h1, h2⟩ | ⟨i, hi, h1, h2, h3⟩
      · exact .inl ⟨h1, fun x hx => (List.mem_cons.1 hx).elim (fun e => by rw [e]; exact Bool.eq_false_iff.2 h) (fun hx => h2 x hx)⟩
      · refine .inr ⟨i + 1, by simp; omega, by rw [h1]; congr 1; omega, by simpa using h2, fun j hj => ?_⟩
        cases j with
        | zero => simpa using Bool.eq_false_iff.2 h
        | succ j => simpa using h3 j (by omega)

section
variable {w w' : World} {B k n c : Nat} {A : Option Addr} {xs : List Value}
theorem Rd.none_nil {α : Type} {us : List α} {f : α → List Value} {n : Nat} (h : Rd w B k none n c (us.flatMap f)) (hn : us.length = n) : n = 0 ∧ us = [] := by
  have h0 : n = 0 := by
    rcases Nat.eq_zero_or_pos n with h0 | h0
    · exact h0
    · obtain ⟨_, _, e, _⟩ := h.2.2.2 h0; cases e
  exact ⟨h0, List.eq_nil_of_length_eq_zero (by omega)⟩
theorem Rd.cells_some {ad : Addr} (h : Rd w B k (some ad) n c xs) (hb : Below B w w') : ∀ j u, xs[j]? = some u → w'.cell? (ad.add j) = some u := by
  intro j u hu
  have hl : j < xs.length := (List.getElem?_eq_some_iff.1 hu).1
  have hn : 0 < n := by
    rcases Nat.eq_zero_or_pos n with h0 | h0
    · subst h0; rw [h.1, Nat.zero_mul] at hl; omega
    · exact h0
  obtain ⟨b, off, e, hlt, hc⟩ := h.2.2.2 hn
  injection e with e
  subst e
  rw [Addr.add_lit, hb.cell (p := ⟨b, off + j, none⟩) hlt]
  exact hc j u hu
end
end Go.Proofs.YtlmmeeeoljlgcaaDoor
namespace Go.Proofs.YtlmmeeeoljlgcaaDoor
open Go.RowKit
set_option linter.unusedVariables false
set_option linter.unusedSimpArgs false

def encByte (b : UInt8) : List Value := [.int .u8 b.toNat]
theorem encByte_len (b : UInt8) : (encByte b).length = 1 := rfl
abbrev rByte (A : Option Addr) (c : Nat) (bs : List UInt8) : Ent := row 5 1 (.slice A bs.length c) bs.length (bs.flatMap encByte)
theorem rByte_snoc (A : Option Addr) (c : Nat) (bs : List UInt8) (b : UInt8) : row 5 1 (.slice A (bs.length + 1) c) (bs.length + 1) (bs.flatMap encByte ++ encByte b) = rByte A c (bs ++ [b]) := by simp [rByte]
theorem oneByte (b : UInt8) : ∀ x ∈ encByte b, x.oneCell' = true := by intro x hx; simp [encByte] at hx; subst hx; rfl
theorem take_snoc_l {α : Type} {l : List α} {k : Nat} (h : k < l.length) : l.take (k + 1) = l.take k ++ [l[k]] := List.take_succ_eq_append_getElem h
theorem Tryd.infoByte : (Tryd.prog.info? 5).map (fun i => (i.zero, i.size, i.bytes)) = some (some (.int .u8 0), 1, 1) := by kernel_rfl
theorem Hp.bytesW {w0 w : World} {L : List Ent} {e : TypeId} {s : ByteArray} (H : Hp w0 w L) : Hp w0 (Go.Lib.bytesWorld w e s) L := H.step (Go.Lib.bytesWorld_below w e s)
theorem Sz.bytesW {w : World} {n : Nat} {e : TypeId} {s : ByteArray} (h : Sz w n) : Sz (Go.Lib.bytesWorld w e s) (n + 1) := by
  unfold Sz at h ⊢
  rw [Go.Lib.bytesWorld_size, h]
theorem strCells_enc (s : ByteArray) : Go.Lib.strCells s = s.data.toList.flatMap encByte := by
  unfold Go.Lib.strCells
  induction s.data.toList with
  | nil => rfl
  | cons b l ih => rw [List.map_cons, List.flatMap_cons, ih]; rfl
theorem encByte_get {l : List UInt8} {j : Nat} {u : Value} (h : (l.flatMap encByte)[j]? = some u) : j < l.length ∧ u = .int .u8 (l.getD j 0).toNat := by
  have h1 := flat_get encByte 1 encByte_len l j 0 (by omega)
  rw [Nat.mul_one, Nat.add_zero, h] at h1
  cases hj : l[j]? with
  | none => rw [hj] at h1; cases h1
  | some b =>
    rw [hj] at h1
    simp only [Option.bind_some] at h1
    have hl := (List.getElem?_eq_some_iff.1 hj).1
    refine ⟨hl, ?_⟩
    have : u = .int .u8 b.toNat := by simpa [encByte] using h1
    rw [this, List.getD, hj]; rfl
/-- Appending, maybe nothing, to a row where something is left. -/
theorem wpList_append_lies0 {P : Program} {w : World} {ops : Array Oper} {rest : List Oper} {o : Oper} {a : Act} {Q : Exit → Act → World → Prop} (hgd : o.guard = none) (s x : Operand) (t : TypeId)
    (ho : o.op = .call { callee := .builtin .append, args := #[s, x], argTypes := #[t, t] }) (base : Nat) (e : TypeId) (i : TypeInfo) (z : Value) (size bytes : Nat) (ht : P.underlying t = some (.slice e)) (hi : P.info? e = some i) (hz : i.zero = some z)
    (hsize : i.size = size) (hby : i.bytes = bytes) (hzs : z.cells.size = size) (hsz : 0 < size) (v : Value) (n : Nat) (xs : List Value) (hs : a.eval s = v) (hown : w.ownsRow base e size v n xs)
    (ad : Addr) (m c : Nat) (news : List Value) (hx : a.eval x = .slice (some ad) m c) (hl : news.length = m * size) (hnews : ∀ j u, news[j]? = some u → w.cell? (ad.add j) = some u) (h1 : ∀ u ∈ news, u.oneCell' = true)
    (hm : 0 < n + m) (h63 : n + m ≤ maxLen) (hbytes : (n + m) * bytes ≤ 140737488355328) (hbase : base ≤ w.heap.size) (H : Nat) (hH : w.heap.size = H)
    (h : ∀ g cap w', w'.ownsRow base e size (.slice (some ⟨g, 0, none⟩) (n + m) cap) (n + m) (xs ++ news) → w.grownBy w' v.ownBlock → (v.ownBlock = some g ∨ g = H) → g < w'.heap.size → wpList P ops Q rest (a.put o.dst (.slice (some ⟨g, 0, none⟩) (n + m) cap)) w') : wpList P ops Q (o :: rest) a w := by
  obtain ⟨v', w', hr, h2, h3, _, h5⟩ := run_append_own_at (P := P) w base t o.type e i z size bytes ht hi hz hsize hby hzs hsz v n xs hown ad m c news hl hnews h1 h63 hbytes hbase
  obtain ⟨g, cap, rfl, _, hlt⟩ := h2.form hm
  refine Go.Lib.wpList_append_run w hgd s x t t ho v (.slice (some ad) m c) hs hx _ w' hr (h g cap w' h2 h3 ?_ hlt)
  rcases h5 with h5 | h5
  · exact .inl (by rw [← h5]; rfl)
  · right
    have : g = w.heap.size := by simpa [Value.ownBlock] using h5
    rw [this, hH]
/-- A string's bytes, converted. -/
theorem rd_bytes (w : World) (s : ByteArray) (hs : s.size ≤ maxLen) : Rd (Go.Lib.bytesWorld w 5 s) (Go.Lib.bytesWorld w 5 s).heap.size 1 (some ⟨w.heap.size, 0, none⟩) s.size (grownCap w s.size 0 5) (s.data.toList.flatMap encByte) := by
  have hl : s.data.toList.length = s.size := by simp
  refine ⟨by rw [flat_len encByte 1 encByte_len, hl], grownCap_ge _ _ _ _, grownCap_le_maxLen _ _ _ _ hs, fun _ => ⟨w.heap.size, 0, rfl, by rw [Go.Lib.bytesWorld_size]; omega, fun j u hu => ?_⟩⟩
  obtain ⟨h1, h2⟩ := encByte_get hu
  rw [Nat.zero_add, Go.Lib.bytesWorld_cell w _ s j (by omega), h2]
theorem wpList_append_str {P : Program} {w : World} {ops : Array Oper} {rest : List Oper} {o : Oper} {a : Act} {Q : Exit → Act → World → Prop} (hgd : o.guard = none) (s x : Operand) (t u : TypeId)
    (ho : o.op = .call { callee := .builtin .append, args := #[s, x], argTypes := #[t, u] }) (base : Nat) (e : TypeId) (i : TypeInfo) (ht : P.underlying t = some (.slice e)) (hu : P.underlying u = some .string) (hi : P.info? e = some i) (hz : i.zero = some (.int .u8 0))
    (hsize : i.size = 1) (hby : i.bytes = 1) (v : Value) (n : Nat) (xs : List Value) (hs : a.eval s = v) (hown : w.ownsRow base e 1 v n xs) (str : ByteArray) (hx : a.eval x = .string str)
    (h63 : n + str.size ≤ maxLen) (hbytes : n + str.size ≤ 140737488355328) (hbase : base ≤ w.heap.size)
    (h : ∀ v' w', w'.ownsRow base e 1 v' (n + str.size) (xs ++ Go.Lib.strCells str) → w.grownBy w' v.ownBlock → wpList P ops Q rest (a.put o.dst v') w') : wpList P ops Q (o :: rest) a w := by
  obtain ⟨v', w', hr, h1, h2, _⟩ := Go.Lib.run_append_own_string (P := P) w base t u o.type e i ht hu hi hz hsize hby v n xs hown str h63 hbytes hbase
  exact Go.Lib.wpList_append_run w hgd s x t u ho v (.string str) hs hx v' w' hr (h v' w' h1 h2)
theorem Hp.allocA {w0 w : World} {L : List Ent} {n : Nat} {t : TypeId} {arr : Array Value} (H : Hp w0 w L) (hs : Sz w n) : Hp w0 (w.alloc (.cells arr t)) (box n t arr.toList :: L) := by
  have := Hp.alloc (t := t) (cs := arr.toList) H hs
  simpa using this
theorem Rd.newsF {w : World} {B n c : Nat} {ad : Addr} {xs : List Value} (h : Rd w B 1 (some ad) n c xs) : ∀ (j : Nat) (u : Value), xs[j]? = some u → w.cell? (ad.add j) = some u := fun j u hu => h.cells_some (Below.refl _ _) j u hu
theorem manyByte (l : List UInt8) : ∀ x ∈ l.flatMap encByte, x.oneCell' = true := by
  intro x hx
  obtain ⟨b, _, hb⟩ := List.mem_flatMap.1 hx
  exact oneByte b x hb
end Go.Proofs.YtlmmeeeoljlgcaaDoor
namespace Go.Proofs.YtlmmeeeoljlgcaaDoor
open Go.RowKit
set_option linter.unusedVariables false
set_option linter.unusedSimpArgs false
def encInt (x : Int) : List Value := [.int .i64 x]
theorem encInt_len (x : Int) : (encInt x).length = 1 := rfl
abbrev rInt (A : Option Addr) (c : Nat) (us : List Int) : Ent := row 3 1 (.slice A us.length c) us.length (us.flatMap encInt)
theorem rInt_snoc (A : Option Addr) (c : Nat) (us : List Int) (u : Int) : row 3 1 (.slice A (us.length + 1) c) (us.length + 1) (us.flatMap encInt ++ encInt u) = rInt A c (us ++ [u]) := by simp [rInt]
theorem oneInt (u : Int) : ∀ x ∈ encInt u, x.oneCell' = true := by intro x hx; simp [encInt] at hx; subst hx; rfl
theorem Tryd.infoInt : (Tryd.prog.info? 3).map (fun i => (i.zero, i.size, i.bytes)) = some (some (.int .i64 0), 1, 8) := by kernel_rfl
def marksInt (m n : Nat) : List Value := (List.range n).flatMap fun i => [.int .i64 ((m + i : Nat) : Int)]
theorem marksInt_len (m n : Nat) : (marksInt m n).length = n := by
  rw [marksInt, flat_len (fun i => [.int .i64 ((m + i : Nat) : Int)]) 1 (fun _ => rfl)]; simp
end Go.Proofs.YtlmmeeeoljlgcaaDoor
namespace Go.Proofs.YtlmmeeeoljlgcaaDoor
open Go.RowKit
set_option linter.unusedVariables false
set_option linter.unusedSimpArgs false
abbrev curC (A : Option Addr) (n c : Nat) (i h : Int) : Array Value := #[.slice A n c, .int .i64 i, .int .i64 h]
theorem Bx.drew {w : World} {b : Nat} {t : TypeId} {cs : Array Value} (h : Bx w b t cs) : Bx w.drew b t cs := h
theorem Bx.drewN {w : World} {b m : Nat} {t : TypeId} {cs : Array Value} (h : Bx w b t cs) : Bx (w.drewN m) b t cs := h
theorem Chg.drew {a w : World} {lo hi : Nat} (h : Chg a w lo hi) : Chg a w.drew lo hi := ⟨h.os, h.tape, h.output, h.size, h.block⟩
theorem Chg.drewN {a w : World} {lo hi m : Nat} (h : Chg a w lo hi) : Chg a (w.drewN m) lo hi := ⟨h.os, h.tape, h.output, h.size, h.block⟩
theorem andN (x : Int) (m : Nat) (hm : m < 1099511627776) : 0 ≤ bits .and .i64 x m ∧ bits .and .i64 x m ≤ m := by
  show 0 ≤ IntKind.i64.wrap ((BitVec.ofInt 64 x &&& BitVec.ofInt 64 (m : Int)).toNat : Int) ∧ IntKind.i64.wrap ((BitVec.ofInt 64 x &&& BitVec.ofInt 64 (m : Int)).toNat : Int) ≤ m
  have h2 : (BitVec.ofInt 64 (m : Int)).toNat = m := by
    rw [BitVec.ofInt_natCast, BitVec.toNat_ofNat]; exact Nat.mod_eq_of_lt (by omega)
  rw [BitVec.toNat_and, h2, IntKind.wrap_i64]
  have : (BitVec.ofInt 64 x).toNat &&& m ≤ m := Nat.and_le_right
  omega
theorem and255 (x : Int) : 0 ≤ bits .and .i64 x 255 ∧ bits .and .i64 x 255 ≤ 255 := andN x 255 (by omega)
set_option maxHeartbeats 2000000 in
set_option maxRecDepth 10000 in
theorem l01Byte_raw (b : Nat) (A : Option Addr) (n c : Nat) (bs : List UInt8) (i h : Int) (w : World) (hB : Bx w b 92 (curC A n c i h)) (hi : 0 ≤ i ∧ i ≤ n) (hr : Rd w b 1 A n c (bs.flatMap encByte)) (hn : bs.length = n) :
    Calls Tryd.prog 80 #[.pointer (some ⟨b, 0, none⟩)] w fun e w' => ∃ x i' h' : Int, e = .returned (.int .i64 x) ∧ (0 ≤ x ∧ x ≤ 255) ∧ (0 ≤ i' ∧ i' ≤ n) ∧ Bx w' b 92 (curC A n c i' h') ∧ Chg w w' b (b + 1) := by
  have hc := hr.2.1
  have hm := hr.2.2.1
  unfold maxLen at hm
  have c0 := hB.cell 0
  have c1 := hB.cell 1
  have c2 := hB.cell 2
  have f0 := hB.frozen 0
  have f1 := hB.frozen 1
  have f2 := hB.frozen 2
  have hlt := hB.lt
  simp at c0 c1 c2
  obtain ⟨i, rfl⟩ := Int.eq_ofNat_of_zero_le hi.1
  by_cases hk : i < n
  · obtain ⟨a, off, rfl, ha, hcell⟩ := hr.elem encByte_len hn hk
    have d0 := hcell 0 _ rfl
    simp only [Nat.add_zero, Nat.mul_one] at d0
    have hne : a ≠ b := by omega
    have hne2 : b ≠ a := by omega
    have hk1 : (i : Int) < (n : Int) := by omega
    have hk0 : (0 : Int) ≤ (i : Int) := by omega
    clear hcell
    generalize bs[i] = y at *
    go_enter Tryd.func80, Tryd.ntmps80
    go_wp2_with fail
    go_quiet (fail)
    have hq := and255 (bits .xor .i64 (wrap64 (wrap64 (h * 6364136223846793005) + 1442695040888963407) / 8589934592) (wrap64 (wrap64 (h * 6364136223846793005) + 1442695040888963407) / 35184372088832))
    generalize bits .and .i64 (bits .xor .i64 (wrap64 (wrap64 (h * 6364136223846793005) + 1442695040888963407) / 8589934592) (wrap64 (wrap64 (h * 6364136223846793005) + 1442695040888963407) / 35184372088832)) 255 = x at *
    generalize wrap64 (wrap64 (h * 6364136223846793005) + 1442695040888963407) = h1 at *
    go_wp2_with fail
    go_quiet (fail)
    go_wp2_with fail
    go_quiet (fail)
    go_wp2_with fail
    have hx := ((hB.set (i := 2) (.int .i64 h1))).set (i := 1) (.int .i64 ((i : Int) + 1))
    simp [curC] at hx
    go_ret
    exact ⟨_, (i : Int) + 1, h1, rfl, and255 _, by omega, hx, ((Chg.refl w b (b + 1)).set (.inl ⟨Nat.le_refl _, Nat.lt_succ_self _⟩) _).drewN.set (.inl ⟨Nat.le_refl _, Nat.lt_succ_self _⟩) _⟩
  · have hk1 : ¬ (i : Int) < (n : Int) := by omega
    go_enter Tryd.func80, Tryd.ntmps80
    go_wp2_with fail
    go_quiet (fail)
    have hq := and255 (bits .xor .i64 (wrap64 (wrap64 (h * 6364136223846793005) + 1442695040888963407) / 8589934592) (wrap64 (wrap64 (h * 6364136223846793005) + 1442695040888963407) / 35184372088832))
    generalize bits .and .i64 (bits .xor .i64 (wrap64 (wrap64 (h * 6364136223846793005) + 1442695040888963407) / 8589934592) (wrap64 (wrap64 (h * 6364136223846793005) + 1442695040888963407) / 35184372088832)) 255 = x at *
    generalize wrap64 (wrap64 (h * 6364136223846793005) + 1442695040888963407) = h1 at *
    go_wp2_with fail
    go_quiet (fail)
    go_wp2_with fail
    have hx := (hB.set (i := 2) (.int .i64 h1))
    simp [curC] at hx
    go_ret
    exact ⟨_, (i : Int), h1, rfl, hq, hi, hx, (((Chg.refl w b (b + 1)).set (.inl ⟨Nat.le_refl _, Nat.lt_succ_self _⟩) _).drewN).drewN⟩
/-- A cursor over bytes that came in. -/
def curE (b : Nat) (A : Option Addr) (n c : Nat) : Ent :=
  reg (fun x => x = b) (fun w => ∃ i h : Int, (0 ≤ i ∧ i ≤ n) ∧ Bx w b 92 (curC A n c i h)) (fun w w' hk ⟨i, h, h1, hb⟩ => ⟨i, h, h1, (hk b rfl).trans hb⟩)
theorem mem_set_self {L : List Ent} {i : Nat} {e : Ent} (h : L[i]? = some e) : L.set i e = L := by
  apply List.ext_getElem?
  intro j
  rw [List.getElem?_set]
  by_cases hij : i = j
  · subst hij
    obtain ⟨h1, h2⟩ := List.getElem?_eq_some_iff.1 h
    simp [h1, h2]
  · simp [hij]
/-- One byte is drawn: the cursor stays a cursor. -/
theorem l01Byte_hp (b : Nat) (A : Option Addr) (n c : Nat) (bs : List UInt8) (w0 w : World) (L : List Ent) (H : Hp w0 w L) (hm : curE b A n c ∈ L) (hr : Rd w0 w0.heap.size 1 A n c (bs.flatMap encByte)) (hn : bs.length = n) :
    Calls Tryd.prog 80 #[.pointer (some ⟨b, 0, none⟩)] w fun e w' => ∃ x : Int, e = .returned (.int .i64 x) ∧ (0 ≤ x ∧ x ≤ 255) ∧ Hp w0 w' L := by
  obtain ⟨j, hj, hje⟩ := List.getElem_of_mem hm
  have hj' : L[j]? = some (curE b A n c) := by rw [List.getElem?_eq_getElem hj, hje]
  have hok := H.ok _ hm
  obtain ⟨i, h, hi, hB⟩ := hok.p
  have hlt := hok.lt b rfl
  refine (l01Byte_raw b A n c bs i h w hB hi ((hr.below H.b (Nat.le_refl _)).more hlt.1) hn).mono ?_
  rintro e w' ⟨x, i', h', rfl, hx, hi', hB', hC⟩
  refine ⟨x, rfl, hx, ?_⟩
  have H2 := H.mod (w' := w') j (curE b A n c) (curE b A n c) hj' (fun y hy => .inl hy) ⟨i', h', hi', hB'⟩ (fun y hy => by have : y = b := hy; subst this; exact hB'.lt) hC.os hC.tape hC.output hC.size (fun y hy hy' => hC.block y hy (by
    have : ¬ y = b := hy'
    omega))
  rwa [mem_set_self hj'] at H2
set_option maxHeartbeats 2000000 in
theorem l01Below_hp (b : Nat) (A : Option Addr) (n c : Nat) (bs : List UInt8) (w0 w : World) (L : List Ent) (m : Int) (H : Hp w0 w L) (hm : curE b A n c ∈ L) (hr : Rd w0 w0.heap.size 1 A n c (bs.flatMap encByte)) (hn : bs.length = n) (h0 : 0 < m) (h1 : m ≤ 1099511627776) :
    Calls Tryd.prog 62 #[.pointer (some ⟨b, 0, none⟩), .int .i64 m] w fun e w' => ∃ x : Int, e = .returned (.int .i64 x) ∧ (0 ≤ x ∧ x < m) ∧ Hp w0 w' L := by
  by_cases hs : m ≤ 256
  · go_enter Tryd.func62, Tryd.ntmps62
    go_wp2_with fail
    refine (l01Byte_hp b A n c bs w0 _ L H hm hr hn).mono ?_
    rintro e w1 ⟨x, rfl, hx, H1⟩
    have e1 : x.tmod m = x % m := Int.tmod_eq_emod_of_nonneg hx.1
    have h2 := Int.emod_nonneg x (by omega : m ≠ 0)
    have h3 := Int.emod_lt_of_pos x h0
    go_wp2_with fail
    go_ret
    exact ⟨x % m, rfl, ⟨h2, h3⟩, H1⟩
  · go_enter Tryd.func62, Tryd.ntmps62
    go_wp2_with fail
    refine (l01Byte_hp b A n c bs w0 _ L H hm hr hn).mono ?_
    rintro e w1 ⟨x, rfl, hx, H1⟩
    go_wp2_with fail
    refine (l01Byte_hp b A n c bs w0 _ L H1 hm hr hn).mono ?_
    rintro e w2 ⟨y, rfl, hy, H2⟩
    go_wp2_with fail
    refine (l01Byte_hp b A n c bs w0 _ L H2 hm hr hn).mono ?_
    rintro e w3 ⟨z, rfl, hz, H3⟩
    have h2 := Int.emod_nonneg (x * 65536 + y * 256 + z) (by omega : m ≠ 0)
    have h3 := Int.emod_lt_of_pos (x * 65536 + y * 256 + z) h0
    go_wp2_with fail
    go_ret
    exact ⟨(x * 65536 + y * 256 + z) % m, rfl, ⟨h2, h3⟩, H3⟩
theorem Hp.suf {w0 w : World} {L L' : List Ent} (H : Hp w0 w L') (h : L <:+ L') : Hp w0 w L := by
  obtain ⟨t, rfl⟩ := h
  exact ⟨H.b, fun e he => H.ok e (List.mem_append_right _ he), (List.pairwise_append.1 H.ap).2.1⟩
theorem Hp.boxM {w0 w : World} {L : List Ent} {t : TypeId} {b : Nat} {cs : List Value} (H : Hp w0 w L) (h : box b t cs ∈ L) : Bx w b t cs.toArray := (H.ok _ h).p
theorem l01Once_hp (b : Nat) (A : Option Addr) (n c : Nat) (bs : List UInt8) (w0 w : World) (L : List Ent) (m : Int) (H : Hp w0 w L) (hm : curE b A n c ∈ L) (hr : Rd w0 w0.heap.size 1 A n c (bs.flatMap encByte)) (hn : bs.length = n) (h0 : 0 < m) (h1 : m ≤ 1099511627776) :
    Calls Tryd.prog 37 #[.pointer (some ⟨b, 0, none⟩), .int .i64 m] w fun e w' => ∃ x : Bool, e = .returned (.bool x) ∧ Hp w0 w' L := by
  go_enter Tryd.func37, Tryd.ntmps37
  go_wp2_with fail
  refine (l01Below_hp b A n c bs w0 _ L m H hm hr hn h0 h1).mono ?_
  rintro e w1 ⟨x, rfl, hx, H1⟩
  go_wp2_with fail
  go_ret
  exact ⟨_, rfl, H1⟩
set_option maxHeartbeats 1000000 in
theorem l01PickInt_hp (b : Nat) (A : Option Addr) (n c : Nat) (bs : List UInt8) (w0 w : World) (L : List Ent) (g k : Nat) (cs : List Value) (P : Int → Prop) (H : Hp w0 w L) (hm : curE b A n c ∈ L) (hg : box g 3 cs ∈ L) (hk : cs.length = k) (h0 : 0 < k) (h1 : k ≤ 1000) (hP : ∀ v ∈ cs, ∃ x : Int, v = .int .i64 x ∧ P x) (hr : Rd w0 w0.heap.size 1 A n c (bs.flatMap encByte)) (hn : bs.length = n) :
    Calls Tryd.prog 66 #[.pointer (some ⟨b, 0, none⟩), .slice (some ⟨g, 0, none⟩) k k] w fun e w' => ∃ x : Int, e = .returned (.int .i64 x) ∧ P x ∧ Hp w0 w' L := by
  go_enter Tryd.func66, Tryd.ntmps66
  go_wp2_with fail
  refine (l01Below_hp b A n c bs w0 _ L k H hm hr hn (by omega) (by omega)).mono ?_
  rintro e w1 ⟨x, rfl, hx, H1⟩
  obtain ⟨j, rfl⟩ := Int.eq_ofNat_of_zero_le hx.1
  have hj : j < cs.length := by omega
  obtain ⟨y, hy, hPy⟩ := hP _ (List.getElem_mem hj)
  have hcell := (H1.boxM hg).cell j
  rw [List.getElem?_toArray, List.getElem?_eq_getElem hj, hy] at hcell
  have hj1 : (j : Int) < (k : Int) := hx.2
  have hj0 : (0 : Int) ≤ (j : Int) := hx.1
  go_wp2_with fail
  go_ret
  exact ⟨y, rfl, hPy, H1⟩
set_option maxHeartbeats 2000000 in
theorem l01New_hp (A : Option Addr) (n c : Nat) (bs : List UInt8) (w0 w : World) (L : List Ent) (H : Hp w0 w L) (hr : Rd w0 w0.heap.size 1 A n c (bs.flatMap encByte)) (hn : bs.length = n) :
    Calls Tryd.prog 61 #[.slice A n c] w fun e w' => ∃ b, e = .returned (.pointer (some ⟨b, 0, none⟩)) ∧ Hp w0 w' (curE b A n c :: L) := by
  have hc := hr.2.1
  have hm := hr.2.2.1
  unfold maxLen at hm
  have HH := Lib.hid H
  go_enter Tryd.func61, Tryd.ntmps61
  go_wp2_with fail
  go_loopw [3, 4] (fun h i wr => ∃ (k : Nat) (h0 : Int), k ≤ n ∧ i = .int .i64 k ∧ h = .int .i64 h0 ∧ Hid (wr = w)) (fun _ i _ => n - (intOf i).toNat)
  case atStart => exact ⟨0, _, Nat.zero_le _, rfl, rfl, by first | exact Lib.hid trivial | exact Lib.hid rfl⟩
  case round =>
    obtain ⟨k, h0, hk, rfl, rfl, HW⟩ := hrel
    have hw := HW.out
    subst hw
    by_cases hlt : k < n
    · have hk1 : (k : Int) < (n : Int) := by omega
      have hk0 : (0 : Int) ≤ (k : Int) := by omega
      by_cases hk4 : (k : Int) < 4000
      · obtain ⟨b, off, rfl, hb, hcell⟩ := hr.elem encByte_len hn hlt
        have c0 := H.b.cell (p := ⟨b, off + k * 1 + 0, none⟩) hb |>.trans (hcell 0 _ rfl)
        simp only [Nat.add_zero, Nat.mul_one] at c0
        clear hcell
        generalize bs[k] = y at *
        go_wp2_with fail
        go_roundw
        case rel => exact ⟨k + 1, _, by omega, by go_num, rfl, by first | exact Lib.hid trivial | exact Lib.hid rfl⟩
        case measure => simp [intOf]; omega
      · go_wp2_with fail
        go_ret
        have H5 : Hp w0 (wr.alloc (.cells #[.slice A n c, .int .i64 0, .int .i64 h0] 92)) (box wr.heap.size 92 [.slice A n c, .int .i64 0, .int .i64 h0] :: L) := (by repeat (first | (with_reducible exact H) | (with_reducible apply Hp.alloc) | (with_reducible apply Hp.set) | (with_reducible apply Hp.drew) | (with_reducible apply Hp.drewN) | (with_reducible apply Hp.bytesW) | (with_reducible exact Upd.here) | (with_reducible exact Upd.hereR) | (with_reducible apply Upd.there) | (with_reducible apply Sz.alloc) | (with_reducible apply Sz.set) | (with_reducible apply Sz.drew) | (with_reducible apply Sz.drewN) | (with_reducible apply Sz.bytesW) | (with_reducible assumption) | (with_reducible exact Sz.base _)))
        exact ⟨wr.heap.size, rfl, H5.as 0 (curE wr.heap.size A n c) rfl (fun _ h => h) (fun h => ⟨0, h0, by omega, h⟩)⟩
    · have hk1 : ¬ (k : Int) < (n : Int) := by omega
      go_wp2_with fail
      go_ret
      have H5 : Hp w0 (wr.alloc (.cells #[.slice A n c, .int .i64 0, .int .i64 h0] 92)) (box wr.heap.size 92 [.slice A n c, .int .i64 0, .int .i64 h0] :: L) := (by repeat (first | (with_reducible exact H) | (with_reducible apply Hp.alloc) | (with_reducible apply Hp.set) | (with_reducible apply Hp.drew) | (with_reducible apply Hp.drewN) | (with_reducible apply Hp.bytesW) | (with_reducible exact Upd.here) | (with_reducible exact Upd.hereR) | (with_reducible apply Upd.there) | (with_reducible apply Sz.alloc) | (with_reducible apply Sz.set) | (with_reducible apply Sz.drew) | (with_reducible apply Sz.drewN) | (with_reducible apply Sz.bytesW) | (with_reducible assumption) | (with_reducible exact Sz.base _)))
      exact ⟨wr.heap.size, rfl, H5.as 0 (curE wr.heap.size A n c) rfl (fun _ h => h) (fun h => ⟨0, h0, by omega, h⟩)⟩
end Go.Proofs.YtlmmeeeoljlgcaaDoor
namespace Go.Proofs.YtlmmeeeoljlgcaaDoor
open Go.RowKit

def devOk (k c f u : Int) : Bool := inR k 0 1099511627776 && (inR c 0 1000000000 && (inR f 0 1000 && inR u 0 2000000000))

end Go.Proofs.YtlmmeeeoljlgcaaDoor
namespace Go.Proofs.YtlmmeeeoljlgcaaDoor
open Go.RowKit
set_option linter.unusedVariables false
set_option linter.unusedSimpArgs false
def AllI : List Value → Prop
  | [] => True
  | v :: vs => (∃ x : Int, v = .int .i64 x) ∧ AllI vs
theorem AllI.out : ∀ {cs : List Value}, AllI cs → ∀ v ∈ cs, ∃ x : Int, v = .int .i64 x ∧ True
  | [], _, v, h => by cases h
  | c :: cs, ⟨⟨x, hx⟩, ht⟩, v, h => by
    rcases List.mem_cons.1 h with rfl | h
    · exact ⟨x, hx, trivial⟩
    · exact AllI.out ht v h
theorem l01PickInt_t (b : Nat) (A : Option Addr) (n c : Nat) (bs : List UInt8) (w0 w : World) (L : List Ent) (g k : Nat) (cs : List Value) (H : Hp w0 w L) (hm : curE b A n c ∈ L) (hg : box g 3 cs ∈ L) (hk : cs.length = k) (h0 : 0 < k) (h1 : k ≤ 1000) (hP : AllI cs) (hr : Rd w0 w0.heap.size 1 A n c (bs.flatMap encByte)) (hn : bs.length = n) :
    Calls Tryd.prog 66 #[.pointer (some ⟨b, 0, none⟩), .slice (some ⟨g, 0, none⟩) k k] w fun e w' => ∃ x : Int, e = .returned (.int .i64 x) ∧ Hp w0 w' L :=
  (l01PickInt_hp b A n c bs w0 w L g k cs (fun _ => True) H hm hg hk h0 h1 hP.out hr hn).mono fun e w' ⟨x, he, _, H'⟩ => ⟨x, he, H'⟩
end Go.Proofs.YtlmmeeeoljlgcaaDoor
namespace Go.Proofs.YtlmmeeeoljlgcaaDoor
open Go.RowKit
set_option linter.unusedVariables false
set_option linter.unusedSimpArgs false
def AllT : List Value → Prop
  | [] => True
  | v :: vs => (∃ x : ByteArray, v = .string x ∧ x.size ≤ 20) ∧ AllT vs
theorem AllT.out : ∀ {cs : List Value}, AllT cs → ∀ v ∈ cs, ∃ x : ByteArray, v = .string x ∧ x.size ≤ 20
  | [], _, v, h => by cases h
  | c :: cs, ⟨hx, ht⟩, v, h => by
    rcases List.mem_cons.1 h with rfl | h
    · exact hx
    · exact AllT.out ht v h
set_option maxHeartbeats 1000000 in
theorem l01PickText_hp (b : Nat) (A : Option Addr) (n c : Nat) (bs : List UInt8) (w0 w : World) (L : List Ent) (g k : Nat) (cs : List Value) (H : Hp w0 w L) (hm : curE b A n c ∈ L) (hg : box g 9 cs ∈ L) (hk : cs.length = k) (h0 : 0 < k) (h1 : k ≤ 1000) (hP : AllT cs) (hr : Rd w0 w0.heap.size 1 A n c (bs.flatMap encByte)) (hn : bs.length = n) :
    Calls Tryd.prog 65 #[.pointer (some ⟨b, 0, none⟩), .slice (some ⟨g, 0, none⟩) k k] w fun e w' => ∃ x : ByteArray, e = .returned (.string x) ∧ x.size ≤ 20 ∧ Hp w0 w' L := by
  go_enter Tryd.func65, Tryd.ntmps65
  go_wp2_with fail
  refine (l01Below_hp b A n c bs w0 _ L k H hm hr hn (by omega) (by omega)).mono ?_
  rintro e w1 ⟨x, rfl, hx, H1⟩
  obtain ⟨j, rfl⟩ := Int.eq_ofNat_of_zero_le hx.1
  have hj : j < cs.length := by omega
  obtain ⟨y, hy, hPy⟩ := hP.out _ (List.getElem_mem hj)
  have hcell := (H1.boxM hg).cell j
  rw [List.getElem?_toArray, List.getElem?_eq_getElem hj, hy] at hcell
  have hj1 : (j : Int) < (k : Int) := hx.2
  have hj0 : (0 : Int) ≤ (j : Int) := hx.1
  go_wp2_with fail
  go_ret
  exact ⟨y, rfl, hPy, H1⟩
set_option maxHeartbeats 1000000 in
theorem l01Size_any (A : Option Addr) (n c : Nat) (bs : List UInt8) (w : World) (hr : Rd w w.heap.size 1 A n c (bs.flatMap encByte)) (hn : bs.length = n) :
    Calls Tryd.prog 63 #[.slice A n c, .int .i64 14] w fun e w' => ∃ x : Int, e = .returned (.int .i64 x) ∧ (0 < x ∧ x ≤ 14) ∧ Below w.heap.size w w' := by
  have hc := hr.2.1
  have hm := hr.2.2.1
  unfold maxLen at hm
  have H := Hp.nil w
  have e1 : (n : Int).tdiv 16 = (n : Int) / 16 := Int.tdiv_eq_ediv_of_nonneg (by omega)
  have hw0 : IntKind.i64.wrap ((n : Int) / 16) = (n : Int) / 16 := by rw [IntKind.wrap_i64]; omega
  have hw1 : IntKind.i64.wrap (2 + (n : Int) / 16) = 2 + (n : Int) / 16 := by rw [IntKind.wrap_i64]; omega
  by_cases h20 : (14 : Int) < 2 + (n : Int) / 16
  · go_enter Tryd.func63, Tryd.ntmps63
    go_wp2_with fail
    go_ret
    exact ⟨14, rfl, by omega, Hp.b (by repeat (first | (with_reducible exact H) | (with_reducible apply Hp.alloc) | (with_reducible apply Hp.set) | (with_reducible apply Hp.drew) | (with_reducible apply Hp.drewN) | (with_reducible apply Hp.bytesW) | (with_reducible exact Upd.here) | (with_reducible exact Upd.hereR) | (with_reducible apply Upd.there) | (with_reducible apply Sz.alloc) | (with_reducible apply Sz.set) | (with_reducible apply Sz.drew) | (with_reducible apply Sz.drewN) | (with_reducible apply Sz.bytesW) | (with_reducible assumption) | (with_reducible exact Sz.base _)))⟩
  · go_enter Tryd.func63, Tryd.ntmps63
    go_wp2_with fail
    go_ret
    exact ⟨2 + (n : Int) / 16, rfl, by omega, Hp.b (by repeat (first | (with_reducible exact H) | (with_reducible apply Hp.alloc) | (with_reducible apply Hp.set) | (with_reducible apply Hp.drew) | (with_reducible apply Hp.drewN) | (with_reducible apply Hp.bytesW) | (with_reducible exact Upd.here) | (with_reducible exact Upd.hereR) | (with_reducible apply Upd.there) | (with_reducible apply Sz.alloc) | (with_reducible apply Sz.set) | (with_reducible apply Sz.drew) | (with_reducible apply Sz.drewN) | (with_reducible apply Sz.bytesW) | (with_reducible assumption) | (with_reducible exact Sz.base _)))⟩
set_option maxHeartbeats 4000000 in
set_option maxRecDepth 10000 in
theorem l01DrawSegment_hp (b : Nat) (A : Option Addr) (n c : Nat) (bs : List UInt8) (w0 w : World) (L : List Ent) (H : Hp w0 w L) (hm : curE b A n c ∈ L) (hr : Rd w0 w0.heap.size 1 A n c (bs.flatMap encByte)) (hn : bs.length = n) :
    Calls Tryd.prog 81 #[.pointer (some ⟨b, 0, none⟩)] w fun e w' => ∃ x : ByteArray, e = .returned (.string x) ∧ x.size ≤ 20 ∧ Hp w0 w' L := by
  go_enter Tryd.func81, Tryd.ntmps81
  go_wp2_with fail
  refine (l01Once_hp b A n c bs w0 _ _ _ (by repeat (first | (with_reducible exact H) | (with_reducible apply Hp.alloc) | (with_reducible apply Hp.set) | (with_reducible apply Hp.drew) | (with_reducible apply Hp.drewN) | (with_reducible apply Hp.bytesW) | (with_reducible exact Upd.here) | (with_reducible exact Upd.hereR) | (with_reducible apply Upd.there) | (with_reducible apply Sz.alloc) | (with_reducible apply Sz.set) | (with_reducible apply Sz.drew) | (with_reducible apply Sz.drewN) | (with_reducible apply Sz.bytesW) | (with_reducible assumption) | (with_reducible exact Sz.base _))) (by repeat (first | (with_reducible exact hm) | (with_reducible exact List.mem_cons_self) | (with_reducible apply List.mem_cons_of_mem))) hr hn (by omega) (by omega)).mono ?_
  rintro e w1 ⟨x3, rfl, H3⟩
  replace H := H3; clear H3
  cases x3 with
  | true =>
    go_wp2_with (go_at_call 65; refine (l01PickText_hp b A n c bs w0 _ _ _ _ _ (by repeat (first | (with_reducible exact H) | (with_reducible apply Hp.alloc) | (with_reducible apply Hp.set) | (with_reducible apply Hp.drew) | (with_reducible apply Hp.drewN) | (with_reducible apply Hp.bytesW) | (with_reducible exact Upd.here) | (with_reducible exact Upd.hereR) | (with_reducible apply Upd.there) | (with_reducible apply Sz.alloc) | (with_reducible apply Sz.set) | (with_reducible apply Sz.drew) | (with_reducible apply Sz.drewN) | (with_reducible apply Sz.bytesW) | (with_reducible assumption) | (with_reducible exact Sz.base _))) (by repeat (first | (with_reducible exact hm) | (with_reducible exact List.mem_cons_self) | (with_reducible apply List.mem_cons_of_mem))) (by repeat (first | (with_reducible exact List.mem_cons_self) | (with_reducible apply List.mem_cons_of_mem))) (by rfl) (by omega) (by omega) (by repeat (first | exact trivial | refine ⟨⟨_, rfl, by decide⟩, ?_⟩)) hr hn).mono ?_; rintro e wz5 ⟨x5, rfl, hx5, H5⟩; replace H := H5; clear H5; (try simp only [List.set_cons_zero, List.set_cons_succ, List.cons_append, List.nil_append] at H); (try clear F); (try have F := H.facts; simp only [Facts, NeF, box, row, reg, cellsF, rByte, ne_eq, true_and, and_true, Nat.reduceAdd, Nat.zero_add] at F))
    go_ret
    exact ⟨_, rfl, hx5, Hp.suf (by repeat (first | (with_reducible exact H) | (with_reducible apply Hp.alloc) | (with_reducible apply Hp.set) | (with_reducible apply Hp.drew) | (with_reducible apply Hp.drewN) | (with_reducible apply Hp.bytesW) | (with_reducible exact Upd.here) | (with_reducible exact Upd.hereR) | (with_reducible apply Upd.there) | (with_reducible apply Sz.alloc) | (with_reducible apply Sz.set) | (with_reducible apply Sz.drew) | (with_reducible apply Sz.drewN) | (with_reducible apply Sz.bytesW) | (with_reducible assumption) | (with_reducible exact Sz.base _))) (by repeat (first | (with_reducible exact List.suffix_refl _) | (with_reducible refine List.IsSuffix.trans ?_ (List.suffix_cons _ _))))⟩
  | false =>
    go_wp2_with (go_at_call 65; refine (l01PickText_hp b A n c bs w0 _ _ _ _ _ (by repeat (first | (with_reducible exact H) | (with_reducible apply Hp.alloc) | (with_reducible apply Hp.set) | (with_reducible apply Hp.drew) | (with_reducible apply Hp.drewN) | (with_reducible apply Hp.bytesW) | (with_reducible exact Upd.here) | (with_reducible exact Upd.hereR) | (with_reducible apply Upd.there) | (with_reducible apply Sz.alloc) | (with_reducible apply Sz.set) | (with_reducible apply Sz.drew) | (with_reducible apply Sz.drewN) | (with_reducible apply Sz.bytesW) | (with_reducible assumption) | (with_reducible exact Sz.base _))) (by repeat (first | (with_reducible exact hm) | (with_reducible exact List.mem_cons_self) | (with_reducible apply List.mem_cons_of_mem))) (by repeat (first | (with_reducible exact List.mem_cons_self) | (with_reducible apply List.mem_cons_of_mem))) (by rfl) (by omega) (by omega) (by repeat (first | exact trivial | refine ⟨⟨_, rfl, by decide⟩, ?_⟩)) hr hn).mono ?_; rintro e wz5 ⟨x5, rfl, hx5, H5⟩; replace H := H5; clear H5; (try simp only [List.set_cons_zero, List.set_cons_succ, List.cons_append, List.nil_append] at H); (try clear F); (try have F := H.facts; simp only [Facts, NeF, box, row, reg, cellsF, rByte, ne_eq, true_and, and_true, Nat.reduceAdd, Nat.zero_add] at F))
    go_ret
    exact ⟨_, rfl, hx5, Hp.suf (by repeat (first | (with_reducible exact H) | (with_reducible apply Hp.alloc) | (with_reducible apply Hp.set) | (with_reducible apply Hp.drew) | (with_reducible apply Hp.drewN) | (with_reducible apply Hp.bytesW) | (with_reducible exact Upd.here) | (with_reducible exact Upd.hereR) | (with_reducible apply Upd.there) | (with_reducible apply Sz.alloc) | (with_reducible apply Sz.set) | (with_reducible apply Sz.drew) | (with_reducible apply Sz.drewN) | (with_reducible apply Sz.bytesW) | (with_reducible assumption) | (with_reducible exact Sz.base _))) (by repeat (first | (with_reducible exact List.suffix_refl _) | (with_reducible refine List.IsSuffix.trans ?_ (List.suffix_cons _ _))))⟩
set_option maxHeartbeats 4000000 in
set_option maxRecDepth 10000 in
theorem l01DrawPath_hp (b : Nat) (A : Option Addr) (n c : Nat) (bs : List UInt8) (w0 w : World) (L : List Ent) (H : Hp w0 w L) (hm : curE b A n c ∈ L) (hr : Rd w0 w0.heap.size 1 A n c (bs.flatMap encByte)) (hn : bs.length = n) :
    Calls Tryd.prog 67 #[.pointer (some ⟨b, 0, none⟩)] w fun e w' => ∃ x : ByteArray, e = .returned (.string x) ∧ x.size ≤ 250 ∧ Hp w0 w' L := by
  go_enter Tryd.func67, Tryd.ntmps67
  go_wp2_with fail
  refine (l01DrawSegment_hp b A n c bs w0 _ _ (by repeat (first | (with_reducible exact H) | (with_reducible apply Hp.alloc) | (with_reducible apply Hp.set) | (with_reducible apply Hp.drew) | (with_reducible apply Hp.drewN) | (with_reducible apply Hp.bytesW) | (with_reducible exact Upd.here) | (with_reducible exact Upd.hereR) | (with_reducible apply Upd.there) | (with_reducible apply Sz.alloc) | (with_reducible apply Sz.set) | (with_reducible apply Sz.drew) | (with_reducible apply Sz.drewN) | (with_reducible apply Sz.bytesW) | (with_reducible assumption) | (with_reducible exact Sz.base _))) (by repeat (first | (with_reducible exact hm) | (with_reducible exact List.mem_cons_self) | (with_reducible apply List.mem_cons_of_mem))) hr hn).mono ?_
  rintro e w1 ⟨x1, rfl, hx1, H1⟩
  go_wp2_with fail
  refine (l01Below_hp b A n c bs w0 _ _ _ (by repeat (first | (with_reducible exact H1) | (with_reducible apply Hp.alloc) | (with_reducible apply Hp.set) | (with_reducible apply Hp.drew) | (with_reducible apply Hp.drewN) | (with_reducible apply Hp.bytesW) | (with_reducible exact Upd.here) | (with_reducible exact Upd.hereR) | (with_reducible apply Upd.there) | (with_reducible apply Sz.alloc) | (with_reducible apply Sz.set) | (with_reducible apply Sz.drew) | (with_reducible apply Sz.drewN) | (with_reducible apply Sz.bytesW) | (with_reducible assumption) | (with_reducible exact Sz.base _))) (by repeat (first | (with_reducible exact hm) | (with_reducible exact List.mem_cons_self) | (with_reducible apply List.mem_cons_of_mem))) hr hn (by omega) (by omega)).mono ?_
  rintro e w2 ⟨x2, rfl, hx2, H2⟩
  go_wp2_with fail
  refine (l01Once_hp b A n c bs w0 _ _ _ (by repeat (first | (with_reducible exact H2) | (with_reducible apply Hp.alloc) | (with_reducible apply Hp.set) | (with_reducible apply Hp.drew) | (with_reducible apply Hp.drewN) | (with_reducible apply Hp.bytesW) | (with_reducible exact Upd.here) | (with_reducible exact Upd.hereR) | (with_reducible apply Upd.there) | (with_reducible apply Sz.alloc) | (with_reducible apply Sz.set) | (with_reducible apply Sz.drew) | (with_reducible apply Sz.drewN) | (with_reducible apply Sz.bytesW) | (with_reducible assumption) | (with_reducible exact Sz.base _))) (by repeat (first | (with_reducible exact hm) | (with_reducible exact List.mem_cons_self) | (with_reducible apply List.mem_cons_of_mem))) hr hn (by omega) (by omega)).mono ?_
  rintro e w3 ⟨x3, rfl, H3⟩
  go_upto_if 11 with fail
  go_cut [4] (fun s4 wc => ∃ m : Nat, s4 = .int .i64 m ∧ m ≤ 8 ∧ Hp w0 wc L)
  case first =>
    cases x3 with
    | true =>
      go_wp2_with fail
      refine (l01Below_hp b A n c bs w0 _ _ _ (by repeat (first | (with_reducible exact H3) | (with_reducible apply Hp.alloc) | (with_reducible apply Hp.set) | (with_reducible apply Hp.drew) | (with_reducible apply Hp.drewN) | (with_reducible apply Hp.bytesW) | (with_reducible exact Upd.here) | (with_reducible exact Upd.hereR) | (with_reducible apply Upd.there) | (with_reducible apply Sz.alloc) | (with_reducible apply Sz.set) | (with_reducible apply Sz.drew) | (with_reducible apply Sz.drewN) | (with_reducible apply Sz.bytesW) | (with_reducible assumption) | (with_reducible exact Sz.base _))) (by repeat (first | (with_reducible exact hm) | (with_reducible exact List.mem_cons_self) | (with_reducible apply List.mem_cons_of_mem))) hr hn (by omega) (by omega)).mono ?_
      rintro e w4 ⟨x4, rfl, hx4, H4⟩
      have hw : IntKind.i64.wrap (7 + x4) = 7 + x4 := by rw [IntKind.wrap_i64]; omega
      go_wp2_with fail
      go_meet
      obtain ⟨m, hm9⟩ := Int.eq_ofNat_of_zero_le (show 0 ≤ 7 + x4 by omega)
      exact ⟨m, by rw [hm9], by omega, H4⟩
    | false =>
      go_wp2_with fail
      go_meet
      obtain ⟨m, hm9⟩ := Int.eq_ofNat_of_zero_le hx2.1
      exact ⟨m, by rw [hm9], by omega, H3⟩
  case rest =>
  clear H H1 H2 H3 hx2
  obtain ⟨m, rfl, hm8, H⟩ := hcut
  go_wp2_with fail
  have HH := Lib.hid H; clear H
  go_loopw [5, 3] (fun i s wr => ∃ k : Nat, k ≤ m ∧ i = .int .i64 k ∧ ∃ x : List UInt8, s = .string ⟨x.toArray⟩ ∧ Hid (x.length ≤ 20 + 21 * k) ∧ Hid (Hp w0 wr L)) (fun i _ _ => m - (intOf i).toNat)
  case atStart => exact ⟨0, Nat.zero_le _, rfl, x1.data.toList, by simp, by show _ ≤ _; rw [Array.length_toList]; exact hx1, HH⟩
  case round =>
    clear HH
    obtain ⟨k, hk, rfl, x, rfl, HX, HP⟩ := hrel
    have H := HP.out
    have hx := HX.out
    by_cases hlt : k < m
    · have hk1 : (k : Int) < (m : Int) := by omega
      have HK1 : Hid (k + 1 ≤ m ∧ m - (k + 1) < m - k) := ⟨by omega, by omega⟩
      have hz1 : ¬ 9223372036854775807 < x.length + 1 := by omega
      go_wp2_with fail
      refine (l01DrawSegment_hp b A n c bs w0 _ _ (by repeat (first | (with_reducible exact H) | (with_reducible apply Hp.alloc) | (with_reducible apply Hp.set) | (with_reducible apply Hp.drew) | (with_reducible apply Hp.drewN) | (with_reducible apply Hp.bytesW) | (with_reducible exact Upd.here) | (with_reducible exact Upd.hereR) | (with_reducible apply Upd.there) | (with_reducible apply Sz.alloc) | (with_reducible apply Sz.set) | (with_reducible apply Sz.drew) | (with_reducible apply Sz.drewN) | (with_reducible apply Sz.bytesW) | (with_reducible assumption) | (with_reducible exact Sz.base _))) (by repeat (first | (with_reducible exact hm) | (with_reducible exact List.mem_cons_self) | (with_reducible apply List.mem_cons_of_mem))) hr hn).mono ?_
      rintro e w5 ⟨x5, rfl, hx5, H5⟩
      obtain ⟨y, rfl⟩ : ∃ p : List UInt8, x5 = ⟨p.toArray⟩ := ⟨x5.data.toList, by simp⟩
      have hy : y.length ≤ 20 := by have h : y.toArray.size ≤ 20 := hx5; rwa [List.size_toArray] at h
      have hz2 : ¬ 9223372036854775807 < x.length + 1 + y.length := by omega
      clear hx5
      go_wp2_with fail
      go_roundw
      case rel => exact ⟨k + 1, HK1.out.1, by go_num, x ++ 47 :: y, by congr 1; apply ByteArray.ext; simp, by show _ ≤ _; simp; omega, H5⟩
      case measure => have := HK1.out.2; simp [intOf]; omega
    · have hk1 : ¬ (k : Int) < (m : Int) := by omega
      go_wp2_with fail
      go_ret
      exact ⟨_, rfl, by show x.toArray.size ≤ 250; rw [List.size_toArray]; omega, H⟩
end Go.Proofs.YtlmmeeeoljlgcaaDoor

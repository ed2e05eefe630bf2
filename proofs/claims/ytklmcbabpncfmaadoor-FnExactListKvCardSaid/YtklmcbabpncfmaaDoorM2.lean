/- From the readings of arguments to the walks' words. No condition. -/
import Derived.Test.YtklmcbabpncfmaaDoorPure
import Derived.Deep.Slices
import Derived.Deep.Fields
import Derived.ChangeSame
import Derived.ProofKit
import Derived.OpenShut
import Derived.ShutString
import Derived.ChangeOld
import Derived.Lib.SmallJoins
import Derived.Test.YtklmcbabpncfmaaDoorRows
import Derived.Test.YtklmcbabpncfmaaDoorByte
import Derived.Test.YtklmcbabpncfmaaDoorElEntry
namespace Go.Proofs.YtklmcbabpncfmaaDoor
open Go.RowKit Go.ChangeShapes Go.WideShapes Go.Deep Go.Joins

/-- Elements one by one, as a list. -/
theorem collect {α : Type} {w : World} (enc : α → List Value) (k : Nat) (hk : ∀ x, (enc x).length = k) (P : α → Prop) (a : Addr) : ∀ m : Nat, (∀ i, i < m → ∃ x : α, P x ∧ ∀ j u, (enc x)[j]? = some u → w.cell? (a.add (i * k + j)) = some u) →
    ∃ xs : List α, xs.length = m ∧ (∀ x ∈ xs, P x) ∧ ∀ j u, (xs.flatMap enc)[j]? = some u → w.cell? (a.add j) = some u
  | 0, _ => ⟨[], rfl, fun _ h => absurd h (by simp), fun j u h => by simp at h⟩
  | m + 1, h => by
    obtain ⟨xs, hl, hp, hc⟩ := collect enc k hk P a m fun i hi => h i (by omega)
    obtain ⟨x, hx, hcx⟩ := h m (by omega)
    refine ⟨xs ++ [x], by simp [hl], fun y hy => ?_, fun j u hu => ?_⟩
    · rcases List.mem_append.1 hy with h1 | h1
      · exact hp y h1
      · rw [List.mem_singleton.1 h1]; exact hx
    · rw [List.flatMap_append, List.getElem?_append] at hu
      have hfl := flat_len enc k hk xs
      split at hu
      · exact hc j u hu
      · rename_i hge
        have := hcx (j - (xs.flatMap enc).length) u (by simpa using hu)
        rw [hfl, hl] at this
        rwa [show m * k + (j - m * k) = j by rw [hfl, hl] at hge; omega] at this

/-- A slice of structs that came in. -/
theorem rd_of_cells {α : Type} {w : World} (enc : α → List Value) (k : Nat) (hk : ∀ x, (enc x).length = k) (hk0 : 0 < k) (P : α → Prop) (a : Addr) (len cap : Nat) (hl : len ≤ cap) (hm : cap ≤ maxLen)
    (h : ∀ i, i < len → ∃ x : α, P x ∧ ∀ j u, (enc x)[j]? = some u → w.cell? (a.add (i * k + j)) = some u) :
    ∃ xs : List α, xs.length = len ∧ (∀ x ∈ xs, P x) ∧ Rd w w.heap.size k (some a) len cap (xs.flatMap enc) := by
  obtain ⟨xs, hx, hp, hc⟩ := collect enc k hk P a len h
  refine ⟨xs, hx, hp, by rw [flat_len enc k hk, hx], hl, hm, fun hn => ?_⟩
  obtain ⟨b, off, spot⟩ := a
  have h0 : 0 < (xs.flatMap enc).length := by rw [flat_len enc k hk, hx]; exact Nat.mul_pos hn hk0
  have hc0 := hc 0 _ (List.getElem?_eq_getElem h0)
  have hspot : spot = none := by simpa [Addr.add] using World.cell?_spot hc0
  subst hspot
  refine ⟨b, off, rfl, ?_, fun j u hu => ?_⟩
  · have := World.block_lt_of_cell? w _ hc0
    simpa [Addr.add] using this
  · have := hc j u hu
    rwa [Addr.add_lit] at this

section
variable {H : Type} {enc' : TypeId × Value → H} {P : Program} {w : World} {base : Nat} {spare : Nat → Bool} {held : Bool}
theorem open_sl {α : Type} (enc : α → List Value) (k : Nat) (hk : ∀ x, (enc x).length = k) (hk0 : 0 < k) (Q : α → Prop) {t e : TypeId} {fuel : Nat} {cs : List Value} {x : DataW H × List MemPlace}
    (ht : P.underlying t = some (.slice e)) (hC : P.cellsOf e = k) (hel : ∀ n cs' y, cs'.length = k → DataW.trod enc' P w base spare held n e cs' = some y → ∃ x : α, Q x ∧ cs' = enc x)
    (h : DataW.trod enc' P w base spare held fuel t cs = some x) :
    ∃ A n c, ∃ xs : List α, cs = [.slice A n c] ∧ Rd w w.heap.size k A n c (xs.flatMap enc) ∧ xs.length = n ∧ ∀ x ∈ xs, Q x := by
  rcases open_slice ht h with ⟨rfl, _⟩ | ⟨a, len, cap, m, n, D, Pl, rfl, hb, hl, hm, hmm, hx, hi⟩
  · exact ⟨none, 0, 0, [], rfl, ⟨by simp, Nat.le_refl _, Nat.zero_le _, fun h => absurd h (by omega)⟩, rfl, fun _ h => absurd h (by simp)⟩
  · obtain ⟨xs, hx1, hx2, hx3⟩ := rd_of_cells enc k hk hk0 Q a len cap hl hm (fun i him => by
      have him' : i < m := by rw [hmm]; split <;> omega
      obtain ⟨cs', hc, ht'⟩ := hi i him'
      rw [hC] at hc
      obtain ⟨_, hcl, hat⟩ := World.cells?_some hc
      obtain ⟨x, hq, rfl⟩ := hel _ _ _ hcl ht'
      refine ⟨x, hq, fun j u hu => ?_⟩
      have hj : j < k := by rw [← hcl]; exact (List.getElem?_eq_some_iff.1 hu).1
      have := hat j hj
      rw [Go.Deep.add_add] at this
      rw [this, hu])
    exact ⟨_, _, _, xs, rfl, hx3, hx1, hx2⟩
theorem open_str0 {P : Program} {t : TypeId} {r : Reach} {b0 : Nat} {v : Value} {d : DataW H} {p : List MemPlace} (ht : P.underlying t = some .string) (hv : Value.okWide P w r b0 t v) (h : DataW.Trod enc' P w base spare held t v d p) :
    ∃ s : ByteArray, v = .string s ∧ s.size ≤ maxLen := by
  obtain ⟨s, rfl, _, _, hs⟩ := Go.ChangeMaps.open_string ht hv h
  exact ⟨s, rfl, hs⟩
theorem open_int0 {P : Program} {t : TypeId} {r : Reach} {b0 : Nat} {v : Value} {d : DataW H} {p : List MemPlace} {k : IntKind} (ht : P.underlying t = some (.int k)) (hv : Value.okWide P w r b0 t v) (h : DataW.Trod enc' P w base spare held t v d p) :
    ∃ n, v = .int k n ∧ (Lit.int k n).wf = true := by
  obtain ⟨n, rfl, _, _, hn⟩ := open_int ht hv h
  exact ⟨n, rfl, hn⟩
end
end Go.Proofs.YtklmcbabpncfmaaDoor
namespace Go.Proofs.YtklmcbabpncfmaaDoor
open Go.RowKit Go.ChangeShapes Go.WideShapes Go.Deep Go.Joins
theorem wf_byte {n : Int} (h : (Lit.int .u8 n).wf = true) : ∃ b : UInt8, n = b.toNat := by
  have h2 : 0 ≤ n ∧ n < 256 := by
    have := bounds_u8 h
    omega
  refine ⟨UInt8.ofNat n.toNat, ?_⟩
  rw [UInt8.toNat_ofNat']
  omega
section
variable {H : Type} {enc : TypeId × Value → H} {w : World} {base : Nat} {spare : Nat → Bool} {held : Bool}
set_option maxRecDepth 100000 in
theorem open_bytes' {r : Reach} {b0 : Nat} {v : Value} {d : DataW H} {p : List MemPlace} (hv : Value.okWide Tryd.prog w r b0 22 v) (h : DataW.Trod enc Tryd.prog w base spare held 22 v d p) :
    ∃ A n c, ∃ us : List UInt8, v = .slice A n c ∧ Rd w w.heap.size 1 A n c (us.flatMap encByte) ∧ us.length = n := by
  obtain ⟨a1, len, cap, rfl⟩ := okWide_slice Tryd.underlying22 hv
  obtain ⟨fuel, hf⟩ := h
  obtain ⟨A, n, c, us, e, hr, hn, hq⟩ := open_sl encByte 1 encByte_len (by omega) (fun _ => True) Tryd.underlying22 (by kernel_rfl) (fun _ cs' _ hl ht => by
    obtain ⟨s, e, _, hs⟩ := DataW.trod_int Tryd.underlying5 ht
    obtain ⟨b, rfl⟩ := wf_byte hs
    exact ⟨b, trivial, e⟩) hf
  simp [Value.cells] at e
  obtain ⟨rfl, rfl, rfl⟩ := e
  exact ⟨_, _, _, us, rfl, hr, hn⟩
end
end Go.Proofs.YtklmcbabpncfmaaDoor
namespace Go.Proofs.YtklmcbabpncfmaaDoor
open Go.RowKit Go.ChangeShapes Go.WideShapes Go.Deep Go.Joins
section
variable {H : Type} {enc : TypeId × Value → H} {P : Program} {w : World} {base : Nat} {spare : Nat → Bool} {held : Bool}
theorem trod_struct4v {t : TypeId} {f0 f1 f2 f3 : Field} {fuel : Nat} {cs : List Value} {x : DataW H × List MemPlace} (ht : P.underlying t = some (.struct #[f0, f1, f2, f3])) (h : DataW.trod enc P w base spare held fuel t cs = some x) :
    ∃ y0 y1 y2 y3 n, DataW.trod enc P w base spare held n f0.type ((cs.drop f0.offset).take (P.cellsOf f0.type)) = some y0 ∧ DataW.trod enc P w base spare held n f1.type ((cs.drop f1.offset).take (P.cellsOf f1.type)) = some y1 ∧ DataW.trod enc P w base spare held n f2.type ((cs.drop f2.offset).take (P.cellsOf f2.type)) = some y2 ∧ DataW.trod enc P w base spare held n f3.type ((cs.drop f3.offset).take (P.cellsOf f3.type)) = some y3 := by
  obtain ⟨xs, n, _, rfl, hl, hlen, hf⟩ := DataW.trod_struct ht h
  match xs, hlen with
  | [y0, y1, y2, y3], _ => exact ⟨y0, y1, y2, y3, n, by simpa using hf 0 f0 rfl, by simpa using hf 1 f1 rfl, by simpa using hf 2 f2 rfl, by simpa using hf 3 f3 rfl⟩
theorem open_verC {n : Nat} {cs : List Value} {y : DataW H × List MemPlace} (hl : cs.length = 4) (h : DataW.trod enc Tryd.prog w base spare held n 146 cs = some y) : ∃ u : Ver, DV 0 w u ∧ cs = encVer u := by
  have cells_int : Tryd.prog.cellsOf 3 = 1 := by kernel_rfl
  have cells_bool : Tryd.prog.cellsOf 4 = 1 := by kernel_rfl
  have cells_bytes : Tryd.prog.cellsOf 22 = 1 := by kernel_rfl
  match cs, hl with
  | [c0, c1, c2, c3], _ =>
    obtain ⟨y0, y1, y2, y3, m, h0, h1, h2, h3⟩ := trod_struct4v Tryd.underlying146 h
    obtain ⟨a1, e1, _, _⟩ := DataW.trod_int Tryd.underlying3 h1
    obtain ⟨a2, e2, _⟩ := DataW.trod_bool Tryd.underlying4 h2
    obtain ⟨a3, e3, _⟩ := DataW.trod_bool Tryd.underlying4 h3
    obtain ⟨A, n, c, us, e0, hr, hn, hq⟩ := open_sl encByte 1 encByte_len (by omega) (fun _ => True) Tryd.underlying22 (by kernel_rfl) (fun _ cs' _ hl ht => by
      obtain ⟨s, e, _, hs⟩ := DataW.trod_int Tryd.underlying5 ht
      obtain ⟨b, rfl⟩ := wf_byte hs
      exact ⟨b, trivial, e⟩) h0
    simp [cells_int, cells_bool, cells_bytes] at e0 e1 e2 e3
    subst hn
    subst e0 e1 e2 e3
    exact ⟨⟨us, A, c, a1, a2, a3⟩, ⟨hr, fun _ _ => Nat.zero_le _⟩, rfl⟩
theorem open_entryC {n : Nat} {cs : List Value} {y : DataW H × List MemPlace} (hl : cs.length = 3) (h : DataW.trod enc Tryd.prog w base spare held n 106 cs = some y) : ∃ u : Entry, (u.path.size ≤ maxLen ∧ DE 0 w u) ∧ cs = encEntry u := by
  have cells_string : Tryd.prog.cellsOf 9 = 1 := by kernel_rfl
  have cells_int : Tryd.prog.cellsOf 3 = 1 := by kernel_rfl
  have cells_vers : Tryd.prog.cellsOf 104 = 1 := by kernel_rfl
  match cs, hl with
  | [c0, c1, c2], _ =>
    obtain ⟨y0, y1, y2, m, _, _, h0, h1, h2⟩ := Go.Deep.trod_struct3 Tryd.underlying106 h
    obtain ⟨a0, e0, _, w0⟩ := DataW.trod_string Tryd.underlying9 h0
    obtain ⟨a1, e1, _, _⟩ := DataW.trod_int Tryd.underlying3 h1
    obtain ⟨A, n, c, us, e2, hr, hn, hq⟩ := open_sl encVer 4 encVer_len (by omega) (fun u => DV 0 w u) Tryd.underlying104 (by kernel_rfl) (fun _ _ _ hl ht => open_verC hl ht) h2
    simp [cells_string, cells_int, cells_vers] at e0 e1 e2
    subst hn
    subst e0 e1 e2
    exact ⟨⟨a0, a1, us, A, c⟩, ⟨w0, ⟨hr, fun _ _ => Nat.zero_le _⟩, hq⟩, rfl⟩
set_option maxRecDepth 100000 in
theorem open_store {r : Reach} {b0 : Nat} {v : Value} {d : DataW H} {p : List MemPlace} (hv : Value.okWide Tryd.prog w r b0 46 v) (h : DataW.Trod enc Tryd.prog w base spare held 46 v d p) :
    ∃ A n c, ∃ us : List Entry, v = .agg #[.slice A n c] ∧ Rd w w.heap.size 3 A n c (us.flatMap encEntry) ∧ us.length = n ∧ ∀ u ∈ us, u.path.size ≤ maxLen ∧ DE 0 w u := by
  have hC : Tryd.prog.cellsOf 46 = 1 := by kernel_rfl
  have hC2 : Tryd.prog.cellsOf 44 = 1 := by kernel_rfl
  obtain ⟨cs, rfl, hsz⟩ := okWide_struct Tryd.underlying46 hv
  obtain ⟨l⟩ := cs
  have hl : l.length = 1 := hsz.trans hC
  obtain ⟨fuel, hf⟩ := h
  match l, hl with
  | [c0], _ =>
    obtain ⟨y0, m, _, _, t0⟩ := trod_struct1 Tryd.underlying46 hf
    simp [Value.cells, hC2] at t0
    obtain ⟨A, n, c, us, e, hr, hn, hq⟩ := open_sl encEntry 3 encEntry_len (by omega) (fun u => u.path.size ≤ maxLen ∧ DE 0 w u) Tryd.underlying44 (by kernel_rfl) (fun _ _ _ hl ht => open_entryC hl ht) t0
    simp only [List.cons.injEq, and_true] at e
    subst e
    exact ⟨A, n, c, us, rfl, hr, hn, hq⟩
end
end Go.Proofs.YtklmcbabpncfmaaDoor
namespace Go.Proofs.YtklmcbabpncfmaaDoor
open Go.RowKit Go.ChangeShapes Go.WideShapes Go.Deep Go.Joins
section
variable {H : Type} {enc : TypeId × Value → H} {w : World} {base : Nat} {spare : Nat → Bool} {held : Bool}
set_option maxRecDepth 100000 in
theorem open_str' {r : Reach} {b0 : Nat} {v : Value} {d : DataW H} {p : List MemPlace} (hv : Value.okWide Tryd.prog w r b0 9 v) (h : DataW.Trod enc Tryd.prog w base spare held 9 v d p) : ∃ s : ByteArray, v = .string s ∧ s.size ≤ maxLen := open_str0 Tryd.underlying9 hv h
set_option maxRecDepth 100000 in
theorem open_int' {r : Reach} {b0 : Nat} {v : Value} {d : DataW H} {p : List MemPlace} (hv : Value.okWide Tryd.prog w r b0 3 v) (h : DataW.Trod enc Tryd.prog w base spare held 3 v d p) : ∃ n, v = .int .i64 n ∧ (Lit.int .i64 n).wf = true := open_int0 Tryd.underlying3 hv h
end
end Go.Proofs.YtklmcbabpncfmaaDoor

/- Arguments of the kind pile: opened (and what that needs), in one text. No condition. -/
import Derived.Test.YtaaloiloklnbiaaGreatDoorPure
import Derived.Deep.Slices
import Derived.Deep.Fields
import Derived.ChangeSame
import Derived.ProofKit
import Derived.OpenShut
import Derived.ShutString
import Derived.ChangeOld
import Derived.Lib.SmallJoins
import Derived.Test.YtaaloiloklnbiaaGreatDoorRows
import Derived.Test.YtaaloiloklnbiaaGreatDoorEnInt
import Derived.Test.YtaaloiloklnbiaaGreatDoorElCert
import Derived.Test.YtaaloiloklnbiaaGreatDoorElCertKey
import Derived.Test.YtaaloiloklnbiaaGreatDoorM7
namespace Go.Proofs.YtaaloiloklnbiaaGreatDoor
open Go.RowKit Go.ChangeShapes Go.WideShapes Go.Deep Go.Joins

/-- Elements one by one, as a list. -/
theorem collect {α : Type} {w : World} (enc : α → List Value) (k : Nat) (hk : ∀ x, (enc x).length = k) (P : α → Prop) (a : Addr) : ∀ m : Nat, (∀ i, i < m → ∃ x : α, P x ∧ ∀ j u, (enc x)[j]? = some u → w.cell? (a.add (i * k + j)) = some u) →
    ∃ xs : List α, xs.length = m ∧ (∀ x ∈ xs, P x) ∧ ∀ j u, (xs.flatMap enc)[j]? = some u → w.cell? (a.add j) = some u
  | 0, _ => ⟨[], rfl, fun _ h => absurd h (by simp), fun j u h => by simp at h⟩
  | m + 1, h => by
    obtain ⟨xs, hl, hp, hc⟩ := collect enc k hk P a m fun i hi => h i (by omega)
    obtain ⟨x, hx, hcx⟩ := h m (by omega)
    refine ⟨xs ++ [x], by simp [hl], fun y hy => ?_, fun j u hu => ?_⟩
    · rcases List.mem_append.1 hy with h1 | h1
      · exact hp y h1
      · rw [List.mem_singleton.1 h1]; exact hx
    · rw [List.flatMap_append, List.getElem?_append] at hu
      have hfl := flat_len enc k hk xs
      split at hu
      · exact hc j u hu
      · rename_i hge
        have := hcx (j - (xs.flatMap enc).length) u (by simpa using hu)
        rw [hfl, hl] at this
        rwa [show m * k + (j - m * k) = j by rw [hfl, hl] at hge; omega] at this

/-- A slice of structs that came in. -/
theorem rd_of_cells {α : Type} {w : World} (enc : α → List Value) (k : Nat) (hk : ∀ x, (enc x).length = k) (hk0 : 0 < k) (P : α → Prop) (a : Addr) (len cap : Nat) (hl : len ≤ cap) (hm : cap ≤ maxLen)
    (h : ∀ i, i < len → ∃ x : α, P x ∧ ∀ j u, (enc x)[j]? = some u → w.cell? (a.add (i * k + j)) = some u) :
    ∃ xs : List α, xs.length = len ∧ (∀ x ∈ xs, P x) ∧ Rd w w.heap.size k (some a) len cap (xs.flatMap enc) := by
  obtain ⟨xs, hx, hp, hc⟩ := collect enc k hk P a len h
  refine ⟨xs, hx, hp, by rw [flat_len enc k hk, hx], hl, hm, fun hn => ?_⟩
  obtain ⟨b, off, spot⟩ := a
  have h0 : 0 < (xs.flatMap enc).length := by rw [flat_len enc k hk, hx]; exact Nat.mul_pos hn hk0
  have hc0 := hc 0 _ (List.getElem?_eq_getElem h0)
  have hspot : spot = none := by simpa [Addr.add] using World.cell?_spot hc0
  subst hspot
  refine ⟨b, off, rfl, ?_, fun j u hu => ?_⟩
  · have := World.block_lt_of_cell? w _ hc0
    simpa [Addr.add] using this
  · have := hc j u hu
    rwa [Addr.add_lit] at this

section
variable {H : Type} {enc' : TypeId × Value → H} {P : Program} {w : World} {base : Nat} {spare : Nat → Bool} {held : Bool}
theorem open_sl {α : Type} (enc : α → List Value) (k : Nat) (hk : ∀ x, (enc x).length = k) (hk0 : 0 < k) (Q : α → Prop) {t e : TypeId} {fuel : Nat} {cs : List Value} {x : DataW H × List MemPlace}
    (ht : P.underlying t = some (.slice e)) (hC : P.cellsOf e = k) (hel : ∀ n cs' y, cs'.length = k → DataW.trod enc' P w base spare held n e cs' = some y → ∃ x : α, Q x ∧ cs' = enc x)
    (h : DataW.trod enc' P w base spare held fuel t cs = some x) :
    ∃ A n c, ∃ xs : List α, cs = [.slice A n c] ∧ Rd w w.heap.size k A n c (xs.flatMap enc) ∧ xs.length = n ∧ ∀ x ∈ xs, Q x := by
  rcases open_slice ht h with ⟨rfl, _⟩ | ⟨a, len, cap, m, n, D, Pl, rfl, hb, hl, hm, hmm, hx, hi⟩
  · exact ⟨none, 0, 0, [], rfl, ⟨by simp, Nat.le_refl _, Nat.zero_le _, fun h => absurd h (by omega)⟩, rfl, fun _ h => absurd h (by simp)⟩
  · obtain ⟨xs, hx1, hx2, hx3⟩ := rd_of_cells enc k hk hk0 Q a len cap hl hm (fun i him => by
      have him' : i < m := by rw [hmm]; split <;> omega
      obtain ⟨cs', hc, ht'⟩ := hi i him'
      rw [hC] at hc
      obtain ⟨_, hcl, hat⟩ := World.cells?_some hc
      obtain ⟨x, hq, rfl⟩ := hel _ _ _ hcl ht'
      refine ⟨x, hq, fun j u hu => ?_⟩
      have hj : j < k := by rw [← hcl]; exact (List.getElem?_eq_some_iff.1 hu).1
      have := hat j hj
      rw [Go.Deep.add_add] at this
      rw [this, hu])
    exact ⟨_, _, _, xs, rfl, hx3, hx1, hx2⟩
theorem open_str0 {P : Program} {t : TypeId} {r : Reach} {b0 : Nat} {v : Value} {d : DataW H} {p : List MemPlace} (ht : P.underlying t = some .string) (hv : Value.okWide P w r b0 t v) (h : DataW.Trod enc' P w base spare held t v d p) :
    ∃ s : ByteArray, v = .string s ∧ s.size ≤ maxLen := by
  obtain ⟨s, rfl, _, _, hs⟩ := Go.ChangeMaps.open_string ht hv h
  exact ⟨s, rfl, hs⟩
theorem open_int0 {P : Program} {t : TypeId} {r : Reach} {b0 : Nat} {v : Value} {d : DataW H} {p : List MemPlace} {k : IntKind} (ht : P.underlying t = some (.int k)) (hv : Value.okWide P w r b0 t v) (h : DataW.Trod enc' P w base spare held t v d p) :
    ∃ n, v = .int k n ∧ (Lit.int k n).wf = true := by
  obtain ⟨n, rfl, _, _, hn⟩ := open_int ht hv h
  exact ⟨n, rfl, hn⟩
end
end Go.Proofs.YtaaloiloklnbiaaGreatDoor
namespace Go.Proofs.YtaaloiloklnbiaaGreatDoor
open Go.RowKit Go.ChangeShapes Go.WideShapes Go.Deep Go.Joins
section
variable {H : Type} {enc : TypeId × Value → H} {w : World} {base : Nat} {spare : Nat → Bool} {held : Bool}
set_option maxRecDepth 100000 in
theorem open_str' {r : Reach} {b0 : Nat} {v : Value} {d : DataW H} {p : List MemPlace} (hv : Value.okWide Tryz.prog w r b0 9 v) (h : DataW.Trod enc Tryz.prog w base spare held 9 v d p) : ∃ s : ByteArray, v = .string s ∧ s.size ≤ maxLen := open_str0 Tryz.underlying9 hv h
set_option maxRecDepth 100000 in
theorem open_int' {r : Reach} {b0 : Nat} {v : Value} {d : DataW H} {p : List MemPlace} (hv : Value.okWide Tryz.prog w r b0 3 v) (h : DataW.Trod enc Tryz.prog w base spare held 3 v d p) : ∃ n, v = .int .i64 n ∧ (Lit.int .i64 n).wf = true := open_int0 Tryz.underlying3 hv h
end
end Go.Proofs.YtaaloiloklnbiaaGreatDoor
namespace Go.Proofs.YtaaloiloklnbiaaGreatDoor
open Go.RowKit Go.ChangeShapes Go.WideShapes Go.Deep Go.Joins
section
variable {H : Type} {enc : TypeId × Value → H} {P : Program} {w : World} {base : Nat} {spare : Nat → Bool} {held : Bool}
theorem array8 {α : Type} {cs : Array α} (h : cs.size = 8) : ∃ c0 c1 c2 c3 c4 c5 c6 c7, cs = #[c0, c1, c2, c3, c4, c5, c6, c7] := by
  obtain ⟨l⟩ := cs
  match l, h with
  | [c0, c1, c2, c3, c4, c5, c6, c7], _ => exact ⟨c0, c1, c2, c3, c4, c5, c6, c7, rfl⟩
theorem trod_struct8 {t : TypeId} {f0 f1 f2 f3 f4 f5 f6 f7 : Field} {fuel : Nat} {cs : List Value} {x : DataW H × List MemPlace} (ht : P.underlying t = some (.struct #[f0, f1, f2, f3, f4, f5, f6, f7])) (h : DataW.trod enc P w base spare held fuel t cs = some x) :
    ∃ y0 y1 y2 y3 y4 y5 y6 y7 n, DataW.trod enc P w base spare held n f0.type ((cs.drop f0.offset).take (P.cellsOf f0.type)) = some y0 ∧ DataW.trod enc P w base spare held n f1.type ((cs.drop f1.offset).take (P.cellsOf f1.type)) = some y1 ∧ DataW.trod enc P w base spare held n f2.type ((cs.drop f2.offset).take (P.cellsOf f2.type)) = some y2 ∧ DataW.trod enc P w base spare held n f3.type ((cs.drop f3.offset).take (P.cellsOf f3.type)) = some y3 ∧ DataW.trod enc P w base spare held n f4.type ((cs.drop f4.offset).take (P.cellsOf f4.type)) = some y4 ∧ DataW.trod enc P w base spare held n f5.type ((cs.drop f5.offset).take (P.cellsOf f5.type)) = some y5 ∧ DataW.trod enc P w base spare held n f6.type ((cs.drop f6.offset).take (P.cellsOf f6.type)) = some y6 ∧ DataW.trod enc P w base spare held n f7.type ((cs.drop f7.offset).take (P.cellsOf f7.type)) = some y7 := by
  obtain ⟨xs, n, _, rfl, hl, hlen, hf⟩ := DataW.trod_struct ht h
  match xs, hlen with
  | [y0, y1, y2, y3, y4, y5, y6, y7], _ => exact ⟨y0, y1, y2, y3, y4, y5, y6, y7, n, by simpa using hf 0 f0 rfl, by simpa using hf 1 f1 rfl, by simpa using hf 2 f2 rfl, by simpa using hf 3 f3 rfl, by simpa using hf 4 f4 rfl, by simpa using hf 5 f5 rfl, by simpa using hf 6 f6 rfl, by simpa using hf 7 f7 rfl⟩
theorem open_agg8 {r : Reach} {b0 : Nat} {t : TypeId} {f0 f1 f2 f3 f4 f5 f6 f7 : Field} {v : Value} {d : DataW H} {p : List MemPlace} (hs : P.underlying t = some (.struct #[f0, f1, f2, f3, f4, f5, f6, f7])) (hone : oneCellFields P #[f0, f1, f2, f3, f4, f5, f6, f7] = true) (hC : P.cellsOf t = 8)
    (hv : Value.okWide P w r b0 t v) (h : DataW.Trod enc P w base spare held t v d p) :
    ∃ (v0 v1 v2 v3 v4 v5 v6 v7 : Value) (y0 y1 y2 y3 y4 y5 y6 y7 : DataW H × List MemPlace) (n : Nat), v = .agg #[v0, v1, v2, v3, v4, v5, v6, v7] ∧ DataW.trod enc P w base spare held n f0.type [v0] = some y0 ∧ DataW.trod enc P w base spare held n f1.type [v1] = some y1 ∧ DataW.trod enc P w base spare held n f2.type [v2] = some y2 ∧ DataW.trod enc P w base spare held n f3.type [v3] = some y3 ∧ DataW.trod enc P w base spare held n f4.type [v4] = some y4 ∧ DataW.trod enc P w base spare held n f5.type [v5] = some y5 ∧ DataW.trod enc P w base spare held n f6.type [v6] = some y6 ∧ DataW.trod enc P w base spare held n f7.type [v7] = some y7 := by
  obtain ⟨cs, rfl, hsz⟩ := okWide_struct hs hv
  obtain ⟨c0, c1, c2, c3, c4, c5, c6, c7, rfl⟩ := array8 (hsz.trans hC)
  obtain ⟨fuel, hf⟩ := h
  obtain ⟨y0, y1, y2, y3, y4, y5, y6, y7, n, h0, h1, h2, h3, h4, h5, h6, h7⟩ := trod_struct8 hs hf
  obtain ⟨o0, k0⟩ := hone_of hone 0 f0 rfl
  obtain ⟨o1, k1⟩ := hone_of hone 1 f1 rfl
  obtain ⟨o2, k2⟩ := hone_of hone 2 f2 rfl
  obtain ⟨o3, k3⟩ := hone_of hone 3 f3 rfl
  obtain ⟨o4, k4⟩ := hone_of hone 4 f4 rfl
  obtain ⟨o5, k5⟩ := hone_of hone 5 f5 rfl
  obtain ⟨o6, k6⟩ := hone_of hone 6 f6 rfl
  obtain ⟨o7, k7⟩ := hone_of hone 7 f7 rfl
  exact ⟨c0, c1, c2, c3, c4, c5, c6, c7, y0, y1, y2, y3, y4, y5, y6, y7, n, rfl, by simpa [Value.cells, o0, k0] using h0, by simpa [Value.cells, o1, k1] using h1, by simpa [Value.cells, o2, k2] using h2, by simpa [Value.cells, o3, k3] using h3, by simpa [Value.cells, o4, k4] using h4, by simpa [Value.cells, o5, k5] using h5, by simpa [Value.cells, o6, k6] using h6, by simpa [Value.cells, o7, k7] using h7⟩
end
end Go.Proofs.YtaaloiloklnbiaaGreatDoor
namespace Go.Proofs.YtaaloiloklnbiaaGreatDoor
open Go.RowKit Go.ChangeShapes Go.WideShapes Go.Deep Go.Joins
section
variable {H : Type} {enc : TypeId × Value → H} {w : World} {base : Nat} {spare : Nat → Bool} {held : Bool}
theorem open_intC {n : Nat} {cs : List Value} {y : DataW H × List MemPlace} (hl : cs.length = 1) (h : DataW.trod enc Tryz.prog w base spare held n 3 cs = some y) : ∃ u : Int, True ∧ cs = encInt u := by
  obtain ⟨s, e0, _, hs⟩ := DataW.trod_int Tryz.underlying3 h
  exact ⟨s, trivial, e0⟩
set_option maxRecDepth 100000 in
theorem open_intsl {r : Reach} {b0 : Nat} {v : Value} {d : DataW H} {p : List MemPlace} (hv : Value.okWide Tryz.prog w r b0 26 v) (h : DataW.Trod enc Tryz.prog w base spare held 26 v d p) :
    ∃ A n c, ∃ us : List Int, v = .slice A n c ∧ Rd w w.heap.size 1 A n c (us.flatMap encInt) ∧ us.length = n := by
  obtain ⟨a1, len, cap, rfl⟩ := okWide_slice Tryz.underlying26 hv
  obtain ⟨fuel, hf⟩ := h
  obtain ⟨A, n, c, us, e, hr, hn, _⟩ := open_sl encInt 1 encInt_len (by omega) (fun _ => True) Tryz.underlying26 (by kernel_rfl) (fun _ _ _ hl ht => open_intC hl ht) hf
  simp [Value.cells] at e
  obtain ⟨rfl, rfl, rfl⟩ := e
  exact ⟨_, _, _, us, rfl, hr, hn⟩
end
end Go.Proofs.YtaaloiloklnbiaaGreatDoor
namespace Go.Proofs.YtaaloiloklnbiaaGreatDoor
open Go.RowKit Go.ChangeShapes Go.WideShapes Go.Deep Go.Joins

section
variable {H : Type} {enc : TypeId × Value → H} {w : World} {base : Nat} {spare : Nat → Bool} {held : Bool}
theorem open_certC {n : Nat} {cs : List Value} {y : DataW H × List MemPlace} (hl : cs.length = 8) (h : DataW.trod enc Tryz.prog w base spare held n 43 cs = some y) : ∃ u : Cert, CertFits u ∧ cs = encCert u := by
  have cells_string : Tryz.prog.cellsOf 9 = 1 := by kernel_rfl
  have cells_int : Tryz.prog.cellsOf 3 = 1 := by kernel_rfl
  have cells_bool : Tryz.prog.cellsOf 4 = 1 := by kernel_rfl
  match cs, hl with
  | [c0, c1, c2, c3, c4, c5, c6, c7], _ =>
    obtain ⟨y0, y1, y2, y3, y4, y5, y6, y7, m, h0, h1, h2, h3, h4, h5, h6, h7⟩ := trod_struct8 Tryz.underlying43 h
    obtain ⟨a0, e0, _, _⟩ := DataW.trod_int Tryz.underlying3 h0
    obtain ⟨a1, e1, _, w1⟩ := DataW.trod_string Tryz.underlying9 h1
    obtain ⟨a2, e2, _, _⟩ := DataW.trod_int Tryz.underlying3 h2
    obtain ⟨a3, e3, _, _⟩ := DataW.trod_int Tryz.underlying3 h3
    obtain ⟨a4, e4, _, _⟩ := DataW.trod_int Tryz.underlying3 h4
    obtain ⟨a5, e5, _⟩ := DataW.trod_bool Tryz.underlying4 h5
    obtain ⟨a6, e6, _, _⟩ := DataW.trod_int Tryz.underlying3 h6
    obtain ⟨a7, e7, _, _⟩ := DataW.trod_int Tryz.underlying3 h7
    simp [cells_string, cells_int, cells_bool] at e0 e1 e2 e3 e4 e5 e6 e7
    subst e0 e1 e2 e3 e4 e5 e6 e7
    exact ⟨⟨a0, a1, a2, a3, a4, a5, a6, a7⟩, w1, rfl⟩
theorem open_certKeyC {n : Nat} {cs : List Value} {y : DataW H × List MemPlace} (hl : cs.length = 2) (h : DataW.trod enc Tryz.prog w base spare held n 110 cs = some y) : ∃ u : CertKey, True ∧ cs = encCertKey u := by
  have cells_int : Tryz.prog.cellsOf 3 = 1 := by kernel_rfl
  match cs, hl with
  | [c0, c1], _ =>
    obtain ⟨y0, y1, m, _, _, h0, h1⟩ := trod_struct2 Tryz.underlying110 h
    obtain ⟨s, e0, _, hs⟩ := DataW.trod_int Tryz.underlying3 h0
    obtain ⟨t, e1, _, ht⟩ := DataW.trod_int Tryz.underlying3 h1
    simp [cells_int] at e0 e1
    subst e0 e1
    exact ⟨⟨s, t⟩, trivial, rfl⟩
set_option maxRecDepth 100000 in
theorem open_pile {r : Reach} {b0 : Nat} {v : Value} {d : DataW H} {p : List MemPlace} (hv : Value.okWide Tryz.prog w r b0 42 v) (h : DataW.Trod enc Tryz.prog w base spare held 42 v d p) :
    ∃ A0 n0 c0, ∃ us0 : List Cert, ∃ A1 n1 c1, ∃ us1 : List CertKey, ∃ A2 n2 c2, ∃ us2 : List Int, v = .agg #[.slice A0 n0 c0, .slice A1 n1 c1, .slice A2 n2 c2] ∧ Rd w w.heap.size 8 A0 n0 c0 (us0.flatMap encCert) ∧ us0.length = n0 ∧ (∀ u ∈ us0, CertFits u) ∧ Rd w w.heap.size 2 A1 n1 c1 (us1.flatMap encCertKey) ∧ us1.length = n1 ∧ Rd w w.heap.size 1 A2 n2 c2 (us2.flatMap encInt) ∧ us2.length = n2 := by
  obtain ⟨v0, v1, v2, y0, y1, y2, m, rfl, rfl, rfl, t0, t1, t2⟩ := open_agg3 Tryz.underlying42 (by kernel_rfl) (by kernel_rfl) hv h
  obtain ⟨A, n, c, us, e, hr, hn, hq⟩ := open_sl encCert 8 encCert_len (by omega) CertFits Tryz.underlying39 (by kernel_rfl) (fun _ _ _ hl ht => open_certC hl ht) t0
  obtain ⟨A1, n1, c1, us1, e1, hr1, hn1, hq1⟩ := open_sl encCertKey 2 encCertKey_len (by omega) (fun _ => True) Tryz.underlying40 (by kernel_rfl) (fun _ _ _ hl ht => open_certKeyC hl ht) t1
  obtain ⟨A2, n2, c2, us2, e2, hr2, hn2, hq2⟩ := open_sl encInt 1 encInt_len (by omega) (fun _ => True) Tryz.underlying26 (by kernel_rfl) (fun _ _ _ hl ht => open_intC hl ht) t2
  simp only [List.cons.injEq, and_true] at e e1 e2
  subst e e1 e2
  exact ⟨A, n, c, us, A1, n1, c1, us1, A2, n2, c2, us2, rfl, hr, hn, hq, hr1, hn1, hr2, hn2⟩
end
section
variable {H : Type} {enc : TypeId × Value → H} {w : World} {base : Nat} {spare : Nat → Bool} {held : Bool}
set_option maxRecDepth 100000 in
theorem open_cert {r : Reach} {b0 : Nat} {v : Value} {d : DataW H} {p : List MemPlace} (hv : Value.okWide Tryz.prog w r b0 43 v) (h : DataW.Trod enc Tryz.prog w base spare held 43 v d p) :
    ∃ c : Cert, v = valCert c ∧ c.owner.size ≤ maxLen := by
  obtain ⟨v0, v1, v2, v3, v4, v5, v6, v7, y0, y1, y2, y3, y4, y5, y6, y7, m, rfl, t0, t1, t2, t3, t4, t5, t6, t7⟩ := open_agg8 Tryz.underlying43 (by kernel_rfl) (by kernel_rfl) hv h
  obtain ⟨a0, e0, _, _⟩ := DataW.trod_int Tryz.underlying3 t0
  obtain ⟨a1, e1, _, w1⟩ := DataW.trod_string Tryz.underlying9 t1
  obtain ⟨a2, e2, _, _⟩ := DataW.trod_int Tryz.underlying3 t2
  obtain ⟨a3, e3, _, _⟩ := DataW.trod_int Tryz.underlying3 t3
  obtain ⟨a4, e4, _, _⟩ := DataW.trod_int Tryz.underlying3 t4
  obtain ⟨a5, e5, _⟩ := DataW.trod_bool Tryz.underlying4 t5
  obtain ⟨a6, e6, _, _⟩ := DataW.trod_int Tryz.underlying3 t6
  obtain ⟨a7, e7, _, _⟩ := DataW.trod_int Tryz.underlying3 t7
  simp only [List.cons.injEq, and_true] at e0 e1 e2 e3 e4 e5 e6 e7
  subst e0 e1 e2 e3 e4 e5 e6 e7
  exact ⟨⟨a0, a1, a2, a3, a4, a5, a6, a7⟩, rfl, w1⟩
end
end Go.Proofs.YtaaloiloklnbiaaGreatDoor

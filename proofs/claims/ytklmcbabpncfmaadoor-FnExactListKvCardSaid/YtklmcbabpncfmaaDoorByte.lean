/- Rows of bytes: read, copied, joined. No condition. -/
import Derived.Test.YtklmcbabpncfmaaDoorCore
import Derived.Test.YtklmcbabpncfmaaDoorHp
import Derived.Test.YtklmcbabpncfmaaDoorSlice
import Derived.Lib.AtoiErrMem
import Derived.Lib.AppendStr
import Derived.Lib.AppendZeros
import Derived.Deep.AppendLies
namespace Go.Proofs.YtklmcbabpncfmaaDoor
open Go.RowKit
set_option linter.unusedVariables false
set_option linter.unusedSimpArgs false

def encByte (b : UInt8) : List Value := [.int .u8 b.toNat]
theorem encByte_len (b : UInt8) : (encByte b).length = 1 := rfl
abbrev rByte (A : Option Addr) (c : Nat) (bs : List UInt8) : Ent := row 5 1 (.slice A bs.length c) bs.length (bs.flatMap encByte)
theorem rByte_snoc (A : Option Addr) (c : Nat) (bs : List UInt8) (b : UInt8) : row 5 1 (.slice A (bs.length + 1) c) (bs.length + 1) (bs.flatMap encByte ++ encByte b) = rByte A c (bs ++ [b]) := by simp [rByte]
theorem oneByte (b : UInt8) : ∀ x ∈ encByte b, x.oneCell' = true := by intro x hx; simp [encByte] at hx; subst hx; rfl
theorem take_snoc_l {α : Type} {l : List α} {k : Nat} (h : k < l.length) : l.take (k + 1) = l.take k ++ [l[k]] := List.take_succ_eq_append_getElem h
theorem Tryd.infoByte : (Tryd.prog.info? 5).map (fun i => (i.zero, i.size, i.bytes)) = some (some (.int .u8 0), 1, 1) := by kernel_rfl
theorem Hp.bytesW {w0 w : World} {L : List Ent} {e : TypeId} {s : ByteArray} (H : Hp w0 w L) : Hp w0 (Go.Lib.bytesWorld w e s) L := H.step (Go.Lib.bytesWorld_below w e s)
theorem Sz.bytesW {w : World} {n : Nat} {e : TypeId} {s : ByteArray} (h : Sz w n) : Sz (Go.Lib.bytesWorld w e s) (n + 1) := by
  unfold Sz at h ⊢
  rw [Go.Lib.bytesWorld_size, h]
theorem strCells_enc (s : ByteArray) : Go.Lib.strCells s = s.data.toList.flatMap encByte := by
  unfold Go.Lib.strCells
  induction s.data.toList with
  | nil => rfl
  | cons b l ih => rw [List.map_cons, List.flatMap_cons, ih]; rfl
theorem encByte_get {l : List UInt8} {j : Nat} {u : Value} (h : (l.flatMap encByte)[j]? = some u) : j < l.length ∧ u = .int .u8 (l.getD j 0).toNat := by
  have h1 := flat_get encByte 1 encByte_len l j 0 (by omega)
  rw [Nat.mul_one, Nat.add_zero, h] at h1
  cases hj : l[j]? with
  | none => rw [hj] at h1; cases h1
  | some b =>
    rw [hj] at h1
    simp only [Option.bind_some] at h1
    have hl := (List.getElem?_eq_some_iff.1 hj).1
    refine ⟨hl, ?_⟩
    have : u = .int .u8 b.toNat := by simpa [encByte] using h1
    rw [this, List.getD, hj]; rfl
/-- Appending, maybe nothing, to a row where something is left. -/
theorem wpList_append_lies0 {P : Program} {w : World} {ops : Array Oper} {rest : List Oper} {o : Oper} {a : Act} {Q : Exit → Act → World → Prop} (hgd : o.guard = none) (s x : Operand) (t : TypeId)
    (ho : o.op = .call { callee := .builtin .append, args := #[s, x], argTypes := #[t, t] }) (base : Nat) (e : TypeId) (i : TypeInfo) (z : Value) (size bytes : Nat) (ht : P.underlying t = some (.slice e)) (hi : P.info? e = some i) (hz : i.zero = some z)
    (hsize : i.size = size) (hby : i.bytes = bytes) (hzs : z.cells.size = size) (hsz : 0 < size) (v : Value) (n : Nat) (xs : List Value) (hs : a.eval s = v) (hown : w.ownsRow base e size v n xs)
    (ad : Addr) (m c : Nat) (news : List Value) (hx : a.eval x = .slice (some ad) m c) (hl : news.length = m * size) (hnews : ∀ j u, news[j]? = some u → w.cell? (ad.add j) = some u) (h1 : ∀ u ∈ news, u.oneCell' = true)
    (hm : 0 < n + m) (h63 : n + m ≤ maxLen) (hbytes : (n + m) * bytes ≤ 140737488355328) (hbase : base ≤ w.heap.size) (H : Nat) (hH : w.heap.size = H)
    (h : ∀ g cap w', w'.ownsRow base e size (.slice (some ⟨g, 0, none⟩) (n + m) cap) (n + m) (xs ++ news) → w.grownBy w' v.ownBlock → (v.ownBlock = some g ∨ g = H) → g < w'.heap.size → wpList P ops Q rest (a.put o.dst (.slice (some ⟨g, 0, none⟩) (n + m) cap)) w') : wpList P ops Q (o :: rest) a w := by
  obtain ⟨v', w', hr, h2, h3, _, h5⟩ := run_append_own_at (P := P) w base t o.type e i z size bytes ht hi hz hsize hby hzs hsz v n xs hown ad m c news hl hnews h1 h63 hbytes hbase
  obtain ⟨g, cap, rfl, _, hlt⟩ := h2.form hm
  refine Go.Lib.wpList_append_run w hgd s x t t ho v (.slice (some ad) m c) hs hx _ w' hr (h g cap w' h2 h3 ?_ hlt)
  rcases h5 with h5 | h5
  · exact .inl (by rw [← h5]; rfl)
  · right
    have : g = w.heap.size := by simpa [Value.ownBlock] using h5
    rw [this, hH]
/-- A string's bytes, converted. -/
theorem rd_bytes (w : World) (s : ByteArray) (hs : s.size ≤ maxLen) : Rd (Go.Lib.bytesWorld w 5 s) (Go.Lib.bytesWorld w 5 s).heap.size 1 (some ⟨w.heap.size, 0, none⟩) s.size (grownCap w s.size 0 5) (s.data.toList.flatMap encByte) := by
  have hl : s.data.toList.length = s.size := by simp
  refine ⟨by rw [flat_len encByte 1 encByte_len, hl], grownCap_ge _ _ _ _, grownCap_le_maxLen _ _ _ _ hs, fun _ => ⟨w.heap.size, 0, rfl, by rw [Go.Lib.bytesWorld_size]; omega, fun j u hu => ?_⟩⟩
  obtain ⟨h1, h2⟩ := encByte_get hu
  rw [Nat.zero_add, Go.Lib.bytesWorld_cell w _ s j (by omega), h2]
theorem wpList_append_str {P : Program} {w : World} {ops : Array Oper} {rest : List Oper} {o : Oper} {a : Act} {Q : Exit → Act → World → Prop} (hgd : o.guard = none) (s x : Operand) (t u : TypeId)
    (ho : o.op = .call { callee := .builtin .append, args := #[s, x], argTypes := #[t, u] }) (base : Nat) (e : TypeId) (i : TypeInfo) (ht : P.underlying t = some (.slice e)) (hu : P.underlying u = some .string) (hi : P.info? e = some i) (hz : i.zero = some (.int .u8 0))
    (hsize : i.size = 1) (hby : i.bytes = 1) (v : Value) (n : Nat) (xs : List Value) (hs : a.eval s = v) (hown : w.ownsRow base e 1 v n xs) (str : ByteArray) (hx : a.eval x = .string str)
    (h63 : n + str.size ≤ maxLen) (hbytes : n + str.size ≤ 140737488355328) (hbase : base ≤ w.heap.size)
    (h : ∀ v' w', w'.ownsRow base e 1 v' (n + str.size) (xs ++ Go.Lib.strCells str) → w.grownBy w' v.ownBlock → wpList P ops Q rest (a.put o.dst v') w') : wpList P ops Q (o :: rest) a w := by
  obtain ⟨v', w', hr, h1, h2, _⟩ := Go.Lib.run_append_own_string (P := P) w base t u o.type e i ht hu hi hz hsize hby v n xs hown str h63 hbytes hbase
  exact Go.Lib.wpList_append_run w hgd s x t u ho v (.string str) hs hx v' w' hr (h v' w' h1 h2)
theorem Hp.allocA {w0 w : World} {L : List Ent} {n : Nat} {t : TypeId} {arr : Array Value} (H : Hp w0 w L) (hs : Sz w n) : Hp w0 (w.alloc (.cells arr t)) (box n t arr.toList :: L) := by
  have := Hp.alloc (t := t) (cs := arr.toList) H hs
  simpa using this
theorem Rd.newsF {w : World} {B n c : Nat} {ad : Addr} {xs : List Value} (h : Rd w B 1 (some ad) n c xs) : ∀ (j : Nat) (u : Value), xs[j]? = some u → w.cell? (ad.add j) = some u := fun j u hu => h.cells_some (Below.refl _ _) j u hu
theorem manyByte (l : List UInt8) : ∀ x ∈ l.flatMap encByte, x.oneCell' = true := by
  intro x hx
  obtain ⟨b, _, hb⟩ := List.mem_flatMap.1 hx
  exact oneByte b x hb
set_option maxHeartbeats 2000000 in
set_option maxRecDepth 10000 in
theorem l01Bytes_hp (A : Option Addr) (c : Nat) (bs : List UInt8) (w : World) (hr : Rd w w.heap.size 1 A bs.length c (bs.flatMap encByte)) (hb20 : bs.length ≤ 2097152) :
    Calls Tryd.prog 39 #[.slice A bs.length c] w fun e w' => ∃ A' c', e = .returned (.slice A' bs.length c') ∧ Hp w w' [rByte A' c' bs] := by
  obtain ⟨i0, hi0, hz0, hz1, hz2⟩ := info_parts Tryd.infoByte
  have hc := hr.2.1
  have hm := hr.2.2.1
  unfold maxLen at hm
  have H := Hp.nil w
  go_enter Tryd.func39, Tryd.ntmps39
  go_wp2_with fail
  go_loopw [3, 4] (fun v i wr => ∃ k : Nat, k ≤ bs.length ∧ i = .int .i64 k ∧ ∃ A' c', v = .slice A' (bs.take k).length c' ∧ Hid (Hp w wr [rByte A' c' (bs.take k)])) (fun _ i _ => bs.length - (intOf i).toNat)
  case atStart => exact ⟨0, Nat.zero_le _, rfl, some ⟨w.heap.size, 0, none⟩, 0, rfl, Lib.hid (Hp.give (Hp.boxRow (by repeat (first | (with_reducible exact H) | (with_reducible apply Hp.alloc) | (with_reducible apply Hp.set) | (with_reducible apply Hp.drew) | (with_reducible apply Hp.drewN) | (with_reducible apply Hp.bytesW) | (with_reducible exact Upd.here) | (with_reducible exact Upd.hereR) | (with_reducible apply Upd.there) | (with_reducible apply Sz.alloc) | (with_reducible apply Sz.set) | (with_reducible apply Sz.drew) | (with_reducible apply Sz.drewN) | (with_reducible apply Sz.bytesW) | (with_reducible assumption) | (with_reducible exact Sz.base _))) 0 1 0 0 (by rfl) (by rfl) (Nat.le_refl _) (Nat.zero_le _)) [0] (by decide) (by rfl))⟩
  case round =>
    clear H
    obtain ⟨k, hk, rfl, A', c', rfl, HP⟩ := hrel
    have H := HP.out
    have F := H.facts; simp only [Facts, NeF, box, row, reg, cellsF, rByte, ne_eq, true_and, and_true, Nat.reduceAdd, Nat.zero_add] at F
    by_cases hlt : k < bs.length
    · obtain ⟨b, off, rfl, hb, hcell⟩ := hr.elem encByte_len rfl hlt
      have c0 := H.b.cell (p := ⟨b, off + k * 1 + 0, none⟩) hb |>.trans (hcell 0 _ rfl)
      simp only [Nat.add_zero, Nat.mul_one] at c0
      have HT : Hid (bs.take (k + 1) = bs.take k ++ [bs[k]]) := take_snoc_l hlt
      have hlen : (bs.take k).length = k := by rw [List.length_take]; omega
      have HL := Lib.hid hlen
      have hl : (bs.take k).length + 1 ≤ maxLen := by unfold maxLen; omega
      have hl2 : ((bs.take k).length + 1) * 1 ≤ 140737488355328 := by omega
      clear hcell hlen HP
      generalize bs[k] = x at *
      generalize bs.take k = ts at *
      go_wp2_with (at_builtin; refine wpList_append_lies _ (by rfl) _ _ 22 (by rfl) w.heap.size 5 i0 _ 1 _ Tryd.underlying22 hi0 hz0 hz1 hz2 (by rfl) (by decide) (.slice A' (ts.length) c') (ts.length) _ (by rfl) (Hp.rowM (by repeat (first | (with_reducible exact H) | (with_reducible apply Hp.alloc) | (with_reducible apply Hp.set) | (with_reducible apply Hp.drew) | (with_reducible apply Hp.drewN) | (with_reducible apply Hp.bytesW) | (with_reducible exact Upd.here) | (with_reducible exact Upd.hereR) | (with_reducible apply Upd.there) | (with_reducible apply Sz.alloc) | (with_reducible apply Sz.set) | (with_reducible apply Sz.drew) | (with_reducible apply Sz.drewN) | (with_reducible apply Sz.bytesW) | (with_reducible assumption) | (with_reducible exact Sz.base _))) (by repeat (first | (with_reducible exact List.mem_cons_self) | (with_reducible apply List.mem_cons_of_mem)))) ⟨wr.heap.size, 0, none⟩ 1 1 (encByte x) (by rfl) (by rfl) (Hp.news (by repeat (first | (with_reducible exact H) | (with_reducible apply Hp.alloc) | (with_reducible apply Hp.set) | (with_reducible apply Hp.drew) | (with_reducible apply Hp.drewN) | (with_reducible apply Hp.bytesW) | (with_reducible exact Upd.here) | (with_reducible exact Upd.hereR) | (with_reducible apply Upd.there) | (with_reducible apply Sz.alloc) | (with_reducible apply Sz.set) | (with_reducible apply Sz.drew) | (with_reducible apply Sz.drewN) | (with_reducible apply Sz.bytesW) | (with_reducible assumption) | (with_reducible exact Sz.base _))) 0 (by rfl)) (oneByte x) (by decide) hl (by omega) (Hp.b (by repeat (first | (with_reducible exact H) | (with_reducible apply Hp.alloc) | (with_reducible apply Hp.set) | (with_reducible apply Hp.drew) | (with_reducible apply Hp.drewN) | (with_reducible apply Hp.bytesW) | (with_reducible exact Upd.here) | (with_reducible exact Upd.hereR) | (with_reducible apply Upd.there) | (with_reducible apply Sz.alloc) | (with_reducible apply Sz.set) | (with_reducible apply Sz.drew) | (with_reducible apply Sz.drewN) | (with_reducible apply Sz.bytesW) | (with_reducible assumption) | (with_reducible exact Sz.base _)))).size _ rfl ?_; intro g cap wa hown hgrow hat hlt1; have H5 := Hp.appM (by repeat (first | (with_reducible exact H) | (with_reducible apply Hp.alloc) | (with_reducible apply Hp.set) | (with_reducible apply Hp.drew) | (with_reducible apply Hp.drewN) | (with_reducible apply Hp.bytesW) | (with_reducible exact Upd.here) | (with_reducible exact Upd.hereR) | (with_reducible apply Upd.there) | (with_reducible apply Sz.alloc) | (with_reducible apply Sz.set) | (with_reducible apply Sz.drew) | (with_reducible apply Sz.drewN) | (with_reducible apply Sz.bytesW) | (with_reducible assumption) | (with_reducible exact Sz.base _))) (by repeat (first | (with_reducible exact Rep.here) | (with_reducible apply Rep.there))) hown hgrow hat rfl hlt1; (try simp only [List.set_cons_zero, List.set_cons_succ, List.cons_append, List.nil_append] at H5); have FA := H5.facts; simp only [Facts, NeF, box, row, reg, cellsF, rByte, ne_eq, true_and, and_true, Nat.reduceAdd, Nat.zero_add] at FA)
      rw [rByte_snoc] at H5
      refine ⟨⟨k + 1, by omega, by go_num, some ⟨g, 0, none⟩, cap, ?_, ?_⟩, by simp [intOf]; omega⟩
      · rw [HT.out]; simp
      · rw [HT.out]; exact Lib.hid (by refine Hp.sel (by repeat (first | (with_reducible exact H5) | (with_reducible apply Hp.alloc) | (with_reducible apply Hp.set) | (with_reducible apply Hp.drew) | (with_reducible apply Hp.drewN) | (with_reducible apply Hp.bytesW) | (with_reducible exact Upd.here) | (with_reducible exact Upd.hereR) | (with_reducible apply Upd.there) | (with_reducible apply Sz.alloc) | (with_reducible apply Sz.set) | (with_reducible apply Sz.drew) | (with_reducible apply Sz.drewN) | (with_reducible apply Sz.bytesW) | (with_reducible assumption) | (with_reducible exact Sz.base _))) ?_; (try simp only [List.set_cons_zero, List.set_cons_succ]); exact (by repeat (first | (with_reducible exact Sel.nil) | (with_reducible apply Sel.cons) | (with_reducible exact Del.here) | (with_reducible apply Del.there))))
    · have HT : Hid (bs.take k = bs) := List.take_of_length_le (by omega)
      rw [HT.out] at HP ⊢
      have H2 := HP.out
      go_wp2_with fail
      go_ret
      exact ⟨A', c', rfl, H2⟩
end Go.Proofs.YtklmcbabpncfmaaDoor

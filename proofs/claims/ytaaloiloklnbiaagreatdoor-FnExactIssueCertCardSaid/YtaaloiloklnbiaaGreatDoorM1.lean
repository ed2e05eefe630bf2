/- Rows of bytes: read, copied, joined. No condition. -/
import Derived.Test.YtaaloiloklnbiaaGreatDoorCore
import Derived.Test.YtaaloiloklnbiaaGreatDoorHp
import Derived.Test.YtaaloiloklnbiaaGreatDoorSlice
import Derived.Lib.AtoiErrMem
import Derived.Lib.AppendStr
import Derived.Lib.AppendZeros
import Derived.Deep.AppendLies
import Derived.Lib.ItoaNum
import Derived.Lib.Repeat
namespace Go.Proofs.YtaaloiloklnbiaaGreatDoor
open Go.RowKit
set_option linter.unusedVariables false
set_option linter.unusedSimpArgs false

def encByte (b : UInt8) : List Value := [.int .u8 b.toNat]
theorem encByte_len (b : UInt8) : (encByte b).length = 1 := rfl
abbrev rByte (A : Option Addr) (c : Nat) (bs : List UInt8) : Ent := row 5 1 (.slice A bs.length c) bs.length (bs.flatMap encByte)
theorem rByte_snoc (A : Option Addr) (c : Nat) (bs : List UInt8) (b : UInt8) : row 5 1 (.slice A (bs.length + 1) c) (bs.length + 1) (bs.flatMap encByte ++ encByte b) = rByte A c (bs ++ [b]) := by simp [rByte]
theorem oneByte (b : UInt8) : ∀ x ∈ encByte b, x.oneCell' = true := by intro x hx; simp [encByte] at hx; subst hx; rfl
theorem take_snoc_l {α : Type} {l : List α} {k : Nat} (h : k < l.length) : l.take (k + 1) = l.take k ++ [l[k]] := List.take_succ_eq_append_getElem h
theorem Tryz.infoByte : (Tryz.prog.info? 5).map (fun i => (i.zero, i.size, i.bytes)) = some (some (.int .u8 0), 1, 1) := by kernel_rfl
theorem Hp.bytesW {w0 w : World} {L : List Ent} {e : TypeId} {s : ByteArray} (H : Hp w0 w L) : Hp w0 (Go.Lib.bytesWorld w e s) L := H.step (Go.Lib.bytesWorld_below w e s)
theorem Sz.bytesW {w : World} {n : Nat} {e : TypeId} {s : ByteArray} (h : Sz w n) : Sz (Go.Lib.bytesWorld w e s) (n + 1) := by
  unfold Sz at h ⊢
  rw [Go.Lib.bytesWorld_size, h]
theorem strCells_enc (s : ByteArray) : Go.Lib.strCells s = s.data.toList.flatMap encByte := by
  unfold Go.Lib.strCells
  induction s.data.toList with
  | nil => rfl
  | cons b l ih => rw [List.map_cons, List.flatMap_cons, ih]; rfl
theorem encByte_get {l : List UInt8} {j : Nat} {u : Value} (h : (l.flatMap encByte)[j]? = some u) : j < l.length ∧ u = .int .u8 (l.getD j 0).toNat := by
  have h1 := flat_get encByte 1 encByte_len l j 0 (by omega)
  rw [Nat.mul_one, Nat.add_zero, h] at h1
  cases hj : l[j]? with
  | none => rw [hj] at h1; cases h1
  | some b =>
    rw [hj] at h1
    simp only [Option.bind_some] at h1
    have hl := (List.getElem?_eq_some_iff.1 hj).1
    refine ⟨hl, ?_⟩
    have : u = .int .u8 b.toNat := by simpa [encByte] using h1
    rw [this, List.getD, hj]; rfl
/-- Appending, maybe nothing, to a row where something is left. -/
theorem wpList_append_lies0 {P : Program} {w : World} {ops : Array Oper} {rest : List Oper} {o : Oper} {a : Act} {Q : Exit → Act → World → Prop} (hgd : o.guard = none) (s x : Operand) (t : TypeId)
    (ho : o.op = .call { callee := .builtin .append, args := #[s, x], argTypes := #[t, t] }) (base : Nat) (e : TypeId) (i : TypeInfo) (z : Value) (size bytes : Nat) (ht : P.underlying t = some (.slice e)) (hi : P.info? e = some i) (hz : i.zero = some z)
    (hsize : i.size = size) (hby : i.bytes = bytes) (hzs : z.cells.size = size) (hsz : 0 < size) (v : Value) (n : Nat) (xs : List Value) (hs : a.eval s = v) (hown : w.ownsRow base e size v n xs)
    (ad : Addr) (m c : Nat) (news : List Value) (hx : a.eval x = .slice (some ad) m c) (hl : news.length = m * size) (hnews : ∀ j u, news[j]? = some u → w.cell? (ad.add j) = some u) (h1 : ∀ u ∈ news, u.oneCell' = true)
    (hm : 0 < n + m) (h63 : n + m ≤ maxLen) (hbytes : (n + m) * bytes ≤ 140737488355328) (hbase : base ≤ w.heap.size) (H : Nat) (hH : w.heap.size = H)
    (h : ∀ g cap w', w'.ownsRow base e size (.slice (some ⟨g, 0, none⟩) (n + m) cap) (n + m) (xs ++ news) → w.grownBy w' v.ownBlock → (v.ownBlock = some g ∨ g = H) → g < w'.heap.size → wpList P ops Q rest (a.put o.dst (.slice (some ⟨g, 0, none⟩) (n + m) cap)) w') : wpList P ops Q (o :: rest) a w := by
  obtain ⟨v', w', hr, h2, h3, _, h5⟩ := run_append_own_at (P := P) w base t o.type e i z size bytes ht hi hz hsize hby hzs hsz v n xs hown ad m c news hl hnews h1 h63 hbytes hbase
  obtain ⟨g, cap, rfl, _, hlt⟩ := h2.form hm
  refine Go.Lib.wpList_append_run w hgd s x t t ho v (.slice (some ad) m c) hs hx _ w' hr (h g cap w' h2 h3 ?_ hlt)
  rcases h5 with h5 | h5
  · exact .inl (by rw [← h5]; rfl)
  · right
    have : g = w.heap.size := by simpa [Value.ownBlock] using h5
    rw [this, hH]
/-- A string's bytes, converted. -/
theorem rd_bytes (w : World) (s : ByteArray) (hs : s.size ≤ maxLen) : Rd (Go.Lib.bytesWorld w 5 s) (Go.Lib.bytesWorld w 5 s).heap.size 1 (some ⟨w.heap.size, 0, none⟩) s.size (grownCap w s.size 0 5) (s.data.toList.flatMap encByte) := by
  have hl : s.data.toList.length = s.size := by simp
  refine ⟨by rw [flat_len encByte 1 encByte_len, hl], grownCap_ge _ _ _ _, grownCap_le_maxLen _ _ _ _ hs, fun _ => ⟨w.heap.size, 0, rfl, by rw [Go.Lib.bytesWorld_size]; omega, fun j u hu => ?_⟩⟩
  obtain ⟨h1, h2⟩ := encByte_get hu
  rw [Nat.zero_add, Go.Lib.bytesWorld_cell w _ s j (by omega), h2]
theorem wpList_append_str {P : Program} {w : World} {ops : Array Oper} {rest : List Oper} {o : Oper} {a : Act} {Q : Exit → Act → World → Prop} (hgd : o.guard = none) (s x : Operand) (t u : TypeId)
    (ho : o.op = .call { callee := .builtin .append, args := #[s, x], argTypes := #[t, u] }) (base : Nat) (e : TypeId) (i : TypeInfo) (ht : P.underlying t = some (.slice e)) (hu : P.underlying u = some .string) (hi : P.info? e = some i) (hz : i.zero = some (.int .u8 0))
    (hsize : i.size = 1) (hby : i.bytes = 1) (v : Value) (n : Nat) (xs : List Value) (hs : a.eval s = v) (hown : w.ownsRow base e 1 v n xs) (str : ByteArray) (hx : a.eval x = .string str)
    (h63 : n + str.size ≤ maxLen) (hbytes : n + str.size ≤ 140737488355328) (hbase : base ≤ w.heap.size)
    (h : ∀ v' w', w'.ownsRow base e 1 v' (n + str.size) (xs ++ Go.Lib.strCells str) → w.grownBy w' v.ownBlock → wpList P ops Q rest (a.put o.dst v') w') : wpList P ops Q (o :: rest) a w := by
  obtain ⟨v', w', hr, h1, h2, _⟩ := Go.Lib.run_append_own_string (P := P) w base t u o.type e i ht hu hi hz hsize hby v n xs hown str h63 hbytes hbase
  exact Go.Lib.wpList_append_run w hgd s x t u ho v (.string str) hs hx v' w' hr (h v' w' h1 h2)
theorem Hp.allocA {w0 w : World} {L : List Ent} {n : Nat} {t : TypeId} {arr : Array Value} (H : Hp w0 w L) (hs : Sz w n) : Hp w0 (w.alloc (.cells arr t)) (box n t arr.toList :: L) := by
  have := Hp.alloc (t := t) (cs := arr.toList) H hs
  simpa using this
theorem Rd.newsF {w : World} {B n c : Nat} {ad : Addr} {xs : List Value} (h : Rd w B 1 (some ad) n c xs) : ∀ (j : Nat) (u : Value), xs[j]? = some u → w.cell? (ad.add j) = some u := fun j u hu => h.cells_some (Below.refl _ _) j u hu
theorem manyByte (l : List UInt8) : ∀ x ∈ l.flatMap encByte, x.oneCell' = true := by
  intro x hx
  obtain ⟨b, _, hb⟩ := List.mem_flatMap.1 hx
  exact oneByte b x hb
set_option maxHeartbeats 2000000 in
set_option maxRecDepth 10000 in
theorem l01Bytes_hp (A : Option Addr) (c : Nat) (bs : List UInt8) (w : World) (hr : Rd w w.heap.size 1 A bs.length c (bs.flatMap encByte)) (hb20 : bs.length ≤ 2097152) :
    Calls Tryz.prog 108 #[.slice A bs.length c] w fun e w' => ∃ A' c', e = .returned (.slice A' bs.length c') ∧ Hp w w' [rByte A' c' bs] := by
  obtain ⟨i0, hi0, hz0, hz1, hz2⟩ := info_parts Tryz.infoByte
  have hc := hr.2.1
  have hm := hr.2.2.1
  unfold maxLen at hm
  have H := Hp.nil w
  go_enter Tryz.func108, Tryz.ntmps108
  go_wp2_with fail
  go_loopw [3, 4] (fun v i wr => ∃ k : Nat, k ≤ bs.length ∧ i = .int .i64 k ∧ ∃ A' c', v = .slice A' (bs.take k).length c' ∧ Hid (Hp w wr [rByte A' c' (bs.take k)])) (fun _ i _ => bs.length - (intOf i).toNat)
  case atStart => exact ⟨0, Nat.zero_le _, rfl, some ⟨w.heap.size, 0, none⟩, 0, rfl, Lib.hid (Hp.give (Hp.boxRow (by repeat (first | (with_reducible exact H) | (with_reducible apply Hp.alloc) | (with_reducible apply Hp.set) | (with_reducible apply Hp.drew) | (with_reducible apply Hp.drewN) | (with_reducible apply Hp.bytesW) | (with_reducible exact Upd.here) | (with_reducible exact Upd.hereR) | (with_reducible apply Upd.there) | (with_reducible apply Sz.alloc) | (with_reducible apply Sz.set) | (with_reducible apply Sz.drew) | (with_reducible apply Sz.drewN) | (with_reducible apply Sz.bytesW) | (with_reducible assumption) | (with_reducible exact Sz.base _))) 0 1 0 0 (by rfl) (by rfl) (Nat.le_refl _) (Nat.zero_le _)) [0] (by decide) (by rfl))⟩
  case round =>
    clear H
    obtain ⟨k, hk, rfl, A', c', rfl, HP⟩ := hrel
    have H := HP.out
    have F := H.facts; simp only [Facts, NeF, box, row, reg, cellsF, rByte, ne_eq, true_and, and_true, Nat.reduceAdd, Nat.zero_add] at F
    by_cases hlt : k < bs.length
    · obtain ⟨b, off, rfl, hb, hcell⟩ := hr.elem encByte_len rfl hlt
      have c0 := H.b.cell (p := ⟨b, off + k * 1 + 0, none⟩) hb |>.trans (hcell 0 _ rfl)
      simp only [Nat.add_zero, Nat.mul_one] at c0
      have HT : Hid (bs.take (k + 1) = bs.take k ++ [bs[k]]) := take_snoc_l hlt
      have hlen : (bs.take k).length = k := by rw [List.length_take]; omega
      have HL := Lib.hid hlen
      have hl : (bs.take k).length + 1 ≤ maxLen := by unfold maxLen; omega
      have hl2 : ((bs.take k).length + 1) * 1 ≤ 140737488355328 := by omega
      clear hcell hlen HP
      generalize bs[k] = x at *
      generalize bs.take k = ts at *
      go_wp2_with (at_builtin; refine wpList_append_lies _ (by rfl) _ _ 22 (by rfl) w.heap.size 5 i0 _ 1 _ Tryz.underlying22 hi0 hz0 hz1 hz2 (by rfl) (by decide) (.slice A' (ts.length) c') (ts.length) _ (by rfl) (Hp.rowM (by repeat (first | (with_reducible exact H) | (with_reducible apply Hp.alloc) | (with_reducible apply Hp.set) | (with_reducible apply Hp.drew) | (with_reducible apply Hp.drewN) | (with_reducible apply Hp.bytesW) | (with_reducible exact Upd.here) | (with_reducible exact Upd.hereR) | (with_reducible apply Upd.there) | (with_reducible apply Sz.alloc) | (with_reducible apply Sz.set) | (with_reducible apply Sz.drew) | (with_reducible apply Sz.drewN) | (with_reducible apply Sz.bytesW) | (with_reducible assumption) | (with_reducible exact Sz.base _))) (by repeat (first | (with_reducible exact List.mem_cons_self) | (with_reducible apply List.mem_cons_of_mem)))) ⟨wr.heap.size, 0, none⟩ 1 1 (encByte x) (by rfl) (by rfl) (Hp.news (by repeat (first | (with_reducible exact H) | (with_reducible apply Hp.alloc) | (with_reducible apply Hp.set) | (with_reducible apply Hp.drew) | (with_reducible apply Hp.drewN) | (with_reducible apply Hp.bytesW) | (with_reducible exact Upd.here) | (with_reducible exact Upd.hereR) | (with_reducible apply Upd.there) | (with_reducible apply Sz.alloc) | (with_reducible apply Sz.set) | (with_reducible apply Sz.drew) | (with_reducible apply Sz.drewN) | (with_reducible apply Sz.bytesW) | (with_reducible assumption) | (with_reducible exact Sz.base _))) 0 (by rfl)) (oneByte x) (by decide) hl (by omega) (Hp.b (by repeat (first | (with_reducible exact H) | (with_reducible apply Hp.alloc) | (with_reducible apply Hp.set) | (with_reducible apply Hp.drew) | (with_reducible apply Hp.drewN) | (with_reducible apply Hp.bytesW) | (with_reducible exact Upd.here) | (with_reducible exact Upd.hereR) | (with_reducible apply Upd.there) | (with_reducible apply Sz.alloc) | (with_reducible apply Sz.set) | (with_reducible apply Sz.drew) | (with_reducible apply Sz.drewN) | (with_reducible apply Sz.bytesW) | (with_reducible assumption) | (with_reducible exact Sz.base _)))).size _ rfl ?_; intro g cap wa hown hgrow hat hlt1; have H5 := Hp.appM (by repeat (first | (with_reducible exact H) | (with_reducible apply Hp.alloc) | (with_reducible apply Hp.set) | (with_reducible apply Hp.drew) | (with_reducible apply Hp.drewN) | (with_reducible apply Hp.bytesW) | (with_reducible exact Upd.here) | (with_reducible exact Upd.hereR) | (with_reducible apply Upd.there) | (with_reducible apply Sz.alloc) | (with_reducible apply Sz.set) | (with_reducible apply Sz.drew) | (with_reducible apply Sz.drewN) | (with_reducible apply Sz.bytesW) | (with_reducible assumption) | (with_reducible exact Sz.base _))) (by repeat (first | (with_reducible exact Rep.here) | (with_reducible apply Rep.there))) hown hgrow hat rfl hlt1; (try simp only [List.set_cons_zero, List.set_cons_succ, List.cons_append, List.nil_append] at H5); have FA := H5.facts; simp only [Facts, NeF, box, row, reg, cellsF, rByte, ne_eq, true_and, and_true, Nat.reduceAdd, Nat.zero_add] at FA)
      rw [rByte_snoc] at H5
      refine ⟨⟨k + 1, by omega, by go_num, some ⟨g, 0, none⟩, cap, ?_, ?_⟩, by simp [intOf]; omega⟩
      · rw [HT.out]; simp
      · rw [HT.out]; exact Lib.hid (by refine Hp.sel (by repeat (first | (with_reducible exact H5) | (with_reducible apply Hp.alloc) | (with_reducible apply Hp.set) | (with_reducible apply Hp.drew) | (with_reducible apply Hp.drewN) | (with_reducible apply Hp.bytesW) | (with_reducible exact Upd.here) | (with_reducible exact Upd.hereR) | (with_reducible apply Upd.there) | (with_reducible apply Sz.alloc) | (with_reducible apply Sz.set) | (with_reducible apply Sz.drew) | (with_reducible apply Sz.drewN) | (with_reducible apply Sz.bytesW) | (with_reducible assumption) | (with_reducible exact Sz.base _))) ?_; (try simp only [List.set_cons_zero, List.set_cons_succ]); exact (by repeat (first | (with_reducible exact Sel.nil) | (with_reducible apply Sel.cons) | (with_reducible exact Del.here) | (with_reducible apply Del.there))))
    · have HT : Hid (bs.take k = bs) := List.take_of_length_le (by omega)
      rw [HT.out] at HP ⊢
      have H2 := HP.out
      go_wp2_with fail
      go_ret
      exact ⟨A', c', rfl, H2⟩
set_option maxHeartbeats 2000000 in
set_option maxRecDepth 10000 in
theorem l01Join_hp (A : Option Addr) (c : Nat) (ls : List UInt8) (A2 : Option Addr) (c2 : Nat) (bs : List UInt8) (w : World) (hra : Rd w w.heap.size 1 A ls.length c (ls.flatMap encByte)) (hr : Rd w w.heap.size 1 A2 bs.length c2 (bs.flatMap encByte)) (ha20 : ls.length ≤ 2097152) (hb20 : bs.length ≤ 2097152) :
    Calls Tryz.prog 76 #[.slice A ls.length c, .slice A2 bs.length c2] w fun e w' => ∃ A' c', e = .returned (.slice A' (ls ++ bs).length c') ∧ Hp w w' [rByte A' c' (ls ++ bs)] := by
  obtain ⟨i0, hi0, hz0, hz1, hz2⟩ := info_parts Tryz.infoByte
  have hc := hr.2.1
  have hm := hr.2.2.1
  unfold maxLen at hm
  have H := Hp.nil w
  go_enter Tryz.func76, Tryz.ntmps76
  go_wp2_with fail
  refine (l01Bytes_hp A c ls _ (hra.grow (Hp.b (by repeat (first | (with_reducible exact H) | (with_reducible apply Hp.alloc) | (with_reducible apply Hp.set) | (with_reducible apply Hp.drew) | (with_reducible apply Hp.drewN) | (with_reducible apply Hp.bytesW) | (with_reducible exact Upd.here) | (with_reducible exact Upd.hereR) | (with_reducible apply Upd.there) | (with_reducible apply Sz.alloc) | (with_reducible apply Sz.set) | (with_reducible apply Sz.drew) | (with_reducible apply Sz.drewN) | (with_reducible apply Sz.bytesW) | (with_reducible assumption) | (with_reducible exact Sz.base _))))) ha20).mono ?_
  rintro e w1 ⟨A1, c1, rfl, h1⟩
  replace H := Hp.call (by repeat (first | (with_reducible exact H) | (with_reducible apply Hp.alloc) | (with_reducible apply Hp.set) | (with_reducible apply Hp.drew) | (with_reducible apply Hp.drewN) | (with_reducible apply Hp.bytesW) | (with_reducible exact Upd.here) | (with_reducible exact Upd.hereR) | (with_reducible apply Upd.there) | (with_reducible apply Sz.alloc) | (with_reducible apply Sz.set) | (with_reducible apply Sz.drew) | (with_reducible apply Sz.drewN) | (with_reducible apply Sz.bytesW) | (with_reducible assumption) | (with_reducible exact Sz.base _))) h1; (try simp only [List.set_cons_zero, List.set_cons_succ, List.cons_append, List.nil_append] at H)
  clear h1
  go_wp2_with fail
  go_loopw [5, 6] (fun v i wr => ∃ k : Nat, k ≤ bs.length ∧ i = .int .i64 k ∧ ∃ A' c', v = .slice A' (ls ++ bs.take k).length c' ∧ Hid (Hp w wr [rByte A' c' (ls ++ bs.take k)])) (fun _ i _ => bs.length - (intOf i).toNat)
  case atStart => exact ⟨0, Nat.zero_le _, rfl, A1, c1, by simp, Lib.hid (by simpa using H)⟩
  case round =>
    clear H
    obtain ⟨k, hk, rfl, A', c', rfl, HP⟩ := hrel
    have H := HP.out
    have F := H.facts; simp only [Facts, NeF, box, row, reg, cellsF, rByte, ne_eq, true_and, and_true, Nat.reduceAdd, Nat.zero_add] at F
    by_cases hlt : k < bs.length
    · obtain ⟨b, off, rfl, hb, hcell⟩ := hr.elem encByte_len rfl hlt
      have c0 := H.b.cell (p := ⟨b, off + k * 1 + 0, none⟩) hb |>.trans (hcell 0 _ rfl)
      simp only [Nat.add_zero, Nat.mul_one] at c0
      have HT : Hid (ls ++ bs.take (k + 1) = (ls ++ bs.take k) ++ [bs[k]]) := by show _ = _; rw [take_snoc_l hlt, List.append_assoc]
      have hlen : (ls ++ bs.take k).length = ls.length + k := by rw [List.length_append, List.length_take]; omega
      have hl : (ls ++ bs.take k).length + 1 ≤ maxLen := by unfold maxLen; omega
      have hl2 : ((ls ++ bs.take k).length + 1) * 1 ≤ 140737488355328 := by omega
      clear hcell hlen HP
      generalize bs[k] = x at *
      generalize ls ++ bs.take k = ts at *
      go_wp2_with (at_builtin; refine wpList_append_lies _ (by rfl) _ _ 22 (by rfl) w.heap.size 5 i0 _ 1 _ Tryz.underlying22 hi0 hz0 hz1 hz2 (by rfl) (by decide) (.slice A' (ts.length) c') (ts.length) _ (by rfl) (Hp.rowM (by repeat (first | (with_reducible exact H) | (with_reducible apply Hp.alloc) | (with_reducible apply Hp.set) | (with_reducible apply Hp.drew) | (with_reducible apply Hp.drewN) | (with_reducible apply Hp.bytesW) | (with_reducible exact Upd.here) | (with_reducible exact Upd.hereR) | (with_reducible apply Upd.there) | (with_reducible apply Sz.alloc) | (with_reducible apply Sz.set) | (with_reducible apply Sz.drew) | (with_reducible apply Sz.drewN) | (with_reducible apply Sz.bytesW) | (with_reducible assumption) | (with_reducible exact Sz.base _))) (by repeat (first | (with_reducible exact List.mem_cons_self) | (with_reducible apply List.mem_cons_of_mem)))) ⟨wr.heap.size, 0, none⟩ 1 1 (encByte x) (by rfl) (by rfl) (Hp.news (by repeat (first | (with_reducible exact H) | (with_reducible apply Hp.alloc) | (with_reducible apply Hp.set) | (with_reducible apply Hp.drew) | (with_reducible apply Hp.drewN) | (with_reducible apply Hp.bytesW) | (with_reducible exact Upd.here) | (with_reducible exact Upd.hereR) | (with_reducible apply Upd.there) | (with_reducible apply Sz.alloc) | (with_reducible apply Sz.set) | (with_reducible apply Sz.drew) | (with_reducible apply Sz.drewN) | (with_reducible apply Sz.bytesW) | (with_reducible assumption) | (with_reducible exact Sz.base _))) 0 (by rfl)) (oneByte x) (by decide) hl (by omega) (Hp.b (by repeat (first | (with_reducible exact H) | (with_reducible apply Hp.alloc) | (with_reducible apply Hp.set) | (with_reducible apply Hp.drew) | (with_reducible apply Hp.drewN) | (with_reducible apply Hp.bytesW) | (with_reducible exact Upd.here) | (with_reducible exact Upd.hereR) | (with_reducible apply Upd.there) | (with_reducible apply Sz.alloc) | (with_reducible apply Sz.set) | (with_reducible apply Sz.drew) | (with_reducible apply Sz.drewN) | (with_reducible apply Sz.bytesW) | (with_reducible assumption) | (with_reducible exact Sz.base _)))).size _ rfl ?_; intro g cap wa hown hgrow hat hlt1; have H5 := Hp.appM (by repeat (first | (with_reducible exact H) | (with_reducible apply Hp.alloc) | (with_reducible apply Hp.set) | (with_reducible apply Hp.drew) | (with_reducible apply Hp.drewN) | (with_reducible apply Hp.bytesW) | (with_reducible exact Upd.here) | (with_reducible exact Upd.hereR) | (with_reducible apply Upd.there) | (with_reducible apply Sz.alloc) | (with_reducible apply Sz.set) | (with_reducible apply Sz.drew) | (with_reducible apply Sz.drewN) | (with_reducible apply Sz.bytesW) | (with_reducible assumption) | (with_reducible exact Sz.base _))) (by repeat (first | (with_reducible exact Rep.here) | (with_reducible apply Rep.there))) hown hgrow hat rfl hlt1; (try simp only [List.set_cons_zero, List.set_cons_succ, List.cons_append, List.nil_append] at H5); have FA := H5.facts; simp only [Facts, NeF, box, row, reg, cellsF, rByte, ne_eq, true_and, and_true, Nat.reduceAdd, Nat.zero_add] at FA)
      rw [rByte_snoc] at H5
      refine ⟨⟨k + 1, by omega, by go_num, some ⟨g, 0, none⟩, cap, ?_, ?_⟩, by simp [intOf]; omega⟩
      · rw [HT.out]; simp
      · rw [HT.out]; exact Lib.hid (by refine Hp.sel (by repeat (first | (with_reducible exact H5) | (with_reducible apply Hp.alloc) | (with_reducible apply Hp.set) | (with_reducible apply Hp.drew) | (with_reducible apply Hp.drewN) | (with_reducible apply Hp.bytesW) | (with_reducible exact Upd.here) | (with_reducible exact Upd.hereR) | (with_reducible apply Upd.there) | (with_reducible apply Sz.alloc) | (with_reducible apply Sz.set) | (with_reducible apply Sz.drew) | (with_reducible apply Sz.drewN) | (with_reducible apply Sz.bytesW) | (with_reducible assumption) | (with_reducible exact Sz.base _))) ?_; (try simp only [List.set_cons_zero, List.set_cons_succ]); exact (by repeat (first | (with_reducible exact Sel.nil) | (with_reducible apply Sel.cons) | (with_reducible exact Del.here) | (with_reducible apply Del.there))))
    · have HT : Hid (bs.take k = bs) := List.take_of_length_le (by omega)
      rw [HT.out] at HP ⊢
      have H2 := HP.out
      go_wp2_with fail
      go_ret
      exact ⟨A', c', rfl, H2⟩
end Go.Proofs.YtaaloiloklnbiaaGreatDoor
namespace Go.Proofs.YtaaloiloklnbiaaGreatDoor
open Go.RowKit
set_option linter.unusedVariables false
set_option linter.unusedSimpArgs false

def digStep (p : Int × Int) (b : UInt8) : Int × Int := ((131 * p.1 + b.toNat + 1) % 2147483647, (137 * p.2 + b.toNat + 3) % 2147483629)
def digP (bs : List UInt8) : Int × Int := bs.foldl digStep (7, 11)
def dig (bs : List UInt8) : Int := 2147483648 * (digP bs).1 + (digP bs).2
theorem digP_snoc (bs : List UInt8) (b : UInt8) : digP (bs ++ [b]) = digStep (digP bs) b := by rw [digP, List.foldl_append]; rfl
theorem digP_bd (bs : List UInt8) : (0 ≤ (digP bs).1 ∧ (digP bs).1 < 2147483647) ∧ 0 ≤ (digP bs).2 ∧ (digP bs).2 < 2147483629 := by
  suffices h : ∀ (l : List UInt8) (p : Int × Int), (0 ≤ p.1 ∧ p.1 < 2147483647) ∧ 0 ≤ p.2 ∧ p.2 < 2147483629 → (0 ≤ (l.foldl digStep p).1 ∧ (l.foldl digStep p).1 < 2147483647) ∧ 0 ≤ (l.foldl digStep p).2 ∧ (l.foldl digStep p).2 < 2147483629 from h bs (7, 11) (by simp)
  intro l
  induction l with
  | nil => intro p h; exact h
  | cons b l ih =>
    intro p h
    refine ih _ ?_
    show (0 ≤ (131 * p.1 + b.toNat + 1) % 2147483647 ∧ (131 * p.1 + b.toNat + 1) % 2147483647 < 2147483647) ∧ 0 ≤ (137 * p.2 + b.toNat + 3) % 2147483629 ∧ (137 * p.2 + b.toNat + 3) % 2147483629 < 2147483629
    omega
theorem dig_bd (bs : List UInt8) : 0 ≤ dig bs ∧ dig bs ≤ 4611686018427387904 := by
  have := digP_bd bs
  unfold dig
  omega
set_option maxHeartbeats 2000000 in
theorem specDigest_any (A : Option Addr) (c : Nat) (bs : List UInt8) (w : World) (hr : Rd w w.heap.size 1 A bs.length c (bs.flatMap encByte)) :
    Calls Tryz.prog 78 #[.slice A bs.length c] w fun e w' => e = .returned (.int .i64 (dig bs)) ∧ w = w' := by
  have hc := hr.2.1
  have hm := hr.2.2.1
  unfold maxLen at hm
  go_enter Tryz.func78, Tryz.ntmps78
  go_wp2_with fail
  go_loop [3, 4, 5] (fun u v i => ∃ (k : Nat) (x y : Int), k ≤ bs.length ∧ i = .int .i64 k ∧ u = .int .i64 x ∧ v = .int .i64 y ∧ 0 ≤ x ∧ x < 2147483647 ∧ 0 ≤ y ∧ y < 2147483629 ∧ Hid (digP (bs.take k) = (x, y))) (fun _ _ i => bs.length - (intOf i).toNat)
  case atStart => exact ⟨0, 7, 11, Nat.zero_le _, rfl, rfl, rfl, by omega, by omega, by omega, by omega, rfl⟩
  case round =>
    obtain ⟨k, x, y, hk, rfl, rfl, rfl, hx0, hx1, hy0, hy1, HD⟩ := hrel
    by_cases hlt : k < bs.length
    · obtain ⟨b, off, rfl, hb, hcell⟩ := hr.elem encByte_len rfl hlt
      have c0 := hcell 0 _ rfl
      simp only [Nat.add_zero, Nat.mul_one] at c0
      have HT : Hid (digP (bs.take (k + 1)) = ((131 * x + bs[k].toNat + 1) % 2147483647, (137 * y + bs[k].toNat + 3) % 2147483629)) := by
        show _ = _
        rw [take_snoc_l hlt, digP_snoc, HD.out]; rfl
      have ht := bs[k].toNat_lt
      clear hcell HD
      generalize bs[k].toNat = t at *
      go_wp2_with fail
      go_round
      case rel => exact ⟨k + 1, _, _, by omega, by go_num, rfl, rfl, by omega, by omega, by omega, by omega, HT⟩
      case measure => simp [intOf]; omega
    · have HE : Hid (dig bs = 2147483648 * x + y) := by
        have := HD.out
        rw [List.take_of_length_le (by omega)] at this
        show _ = _
        rw [dig, this]
      go_wp2_with fail
      go_ret
      exact ⟨by rw [HE.out]; rfl, rfl⟩
set_option maxHeartbeats 2000000 in
theorem digest_any (A : Option Addr) (c : Nat) (bs : List UInt8) (w : World) (hr : Rd w w.heap.size 1 A bs.length c (bs.flatMap encByte)) :
    Calls Tryz.prog 90 #[.slice A bs.length c] w fun e w' => e = .returned (.int .i64 (dig bs)) ∧ w = w' := by
  have hc := hr.2.1
  have hm := hr.2.2.1
  unfold maxLen at hm
  go_enter Tryz.func90, Tryz.ntmps90
  go_wp2_with fail
  go_loop [3, 4, 9] (fun u v i => ∃ (k : Nat) (x y : Int), k ≤ bs.length ∧ i = .int .i64 k ∧ u = .int .i64 x ∧ v = .int .i64 y ∧ 0 ≤ x ∧ x < 2147483647 ∧ 0 ≤ y ∧ y < 2147483629 ∧ Hid (digP (bs.take k) = (x, y))) (fun _ _ i => bs.length - (intOf i).toNat)
  case atStart => exact ⟨0, 7, 11, Nat.zero_le _, rfl, rfl, rfl, by omega, by omega, by omega, by omega, rfl⟩
  case round =>
    obtain ⟨k, x, y, hk, rfl, rfl, rfl, hx0, hx1, hy0, hy1, HD⟩ := hrel
    by_cases hlt : k < bs.length
    · obtain ⟨b, off, rfl, hb, hcell⟩ := hr.elem encByte_len rfl hlt
      have c0 := hcell 0 _ rfl
      simp only [Nat.add_zero, Nat.mul_one] at c0
      have HT : Hid (digP (bs.take (k + 1)) = ((131 * x + bs[k].toNat + 1) % 2147483647, (137 * y + bs[k].toNat + 3) % 2147483629)) := by
        show _ = _
        rw [take_snoc_l hlt, digP_snoc, HD.out]; rfl
      have ht := bs[k].toNat_lt
      clear hcell HD
      generalize bs[k].toNat = t at *
      go_wp2_with fail
      go_round
      case rel => exact ⟨k + 1, _, _, by omega, by go_num, rfl, rfl, by omega, by omega, by omega, by omega, HT⟩
      case measure => simp [intOf]; omega
    · have HE : Hid (dig bs = 2147483648 * x + y) := by
        have := HD.out
        rw [List.take_of_length_le (by omega)] at this
        show _ = _
        rw [dig, this]
      go_wp2_with fail
      go_ret
      exact ⟨by rw [HE.out]; rfl, rfl⟩
theorem specDigest_n (A : Option Addr) (n c : Nat) (bs : List UInt8) (w : World) (hr : Rd w w.heap.size 1 A n c (bs.flatMap encByte)) (hn : bs.length = n) :
    Calls Tryz.prog 78 #[.slice A n c] w fun e w' => e = .returned (.int .i64 (dig bs)) ∧ w = w' := by subst hn; exact specDigest_any A c bs w hr
theorem digest_n (A : Option Addr) (n c : Nat) (bs : List UInt8) (w : World) (hr : Rd w w.heap.size 1 A n c (bs.flatMap encByte)) (hn : bs.length = n) :
    Calls Tryz.prog 90 #[.slice A n c] w fun e w' => e = .returned (.int .i64 (dig bs)) ∧ w = w' := by subst hn; exact digest_any A c bs w hr
end Go.Proofs.YtaaloiloklnbiaaGreatDoor
namespace Go.Proofs.YtaaloiloklnbiaaGreatDoor
open Go.Lib (decDigits)

def dch (n : Nat) : UInt8 := UInt8.ofNat (48 + n % 10)
/-- The last f digits of n. -/
def padL : Nat → Nat → List UInt8
  | 0, _ => []
  | f + 1, n => padL f (n / 10) ++ [dch n]
theorem padL_len : ∀ f n, (padL f n).length = f
  | 0, _ => rfl
  | f + 1, n => by rw [padL, List.length_append, padL_len f]; rfl
theorem padL_cons : ∀ f n, padL (f + 1) n = dch (n / 10 ^ f) :: padL f n
  | 0, n => by simp [padL]
  | f + 1, n => by
    rw [padL, padL_cons f (n / 10), padL, Nat.div_div_eq_div_mul, Nat.pow_succ, Nat.mul_comm 10 (10 ^ f)]
    rfl
theorem dec_small {n : Nat} (h : n < 10) : decDigits n = [dch n] := by rw [decDigits, dif_pos h, dch, Nat.mod_eq_of_lt h]
theorem dec_big {n : Nat} (h : ¬ n < 10) : decDigits n = decDigits (n / 10) ++ [dch n] := by rw [decDigits, dif_neg h, dch]
theorem padL_dec : ∀ f n, n < 10 ^ (f + 1) → List.replicate (f + 1 - (decDigits n).length) 48 ++ decDigits n = padL (f + 1) n
  | 0, n, h => by
    have h : n < 10 := by simpa using h
    rw [dec_small h]; rfl
  | f + 1, n, h => by
    by_cases hn : n < 10
    · have h0 := padL_dec f 0 (Nat.pow_pos (by omega))
      rw [dec_small (by omega)] at h0
      rw [padL, Nat.div_eq_of_lt hn, ← h0, dec_small hn]
      have e : dch 0 = 48 := rfl
      simp only [List.length_cons, List.length_nil, Nat.zero_add, Nat.add_sub_cancel, e]
      rw [List.replicate_succ', List.append_assoc]
    · have h1 : n / 10 < 10 ^ (f + 1) := by
        rw [Nat.div_lt_iff_lt_mul (by omega), ← Nat.pow_succ]; exact h
      rw [padL, ← padL_dec f (n / 10) h1, dec_big hn, List.length_append, List.append_assoc]
      simp
theorem padL_mod : ∀ f n, padL f (n % 10 ^ f) = padL f n
  | 0, _ => rfl
  | f + 1, n => by
    have e1 : n % 10 ^ (f + 1) / 10 = n / 10 % 10 ^ f := by rw [Nat.pow_succ, Nat.mul_comm, Nat.mod_mul_right_div_self]
    have e2 : n % 10 ^ (f + 1) % 10 = n % 10 := by rw [Nat.pow_succ, Nat.mod_mul_left_mod]
    rw [padL, padL, e1, padL_mod f, dch, e2, dch]
theorem dec_len_le : ∀ f n, n < 10 ^ (f + 1) → (decDigits n).length ≤ f + 1
  | 0, n, h => by
    have h : n < 10 := by simpa using h
    rw [dec_small h]; simp
  | f + 1, n, h => by
    by_cases hn : n < 10
    · rw [dec_small hn]; simp
    · have h1 : n / 10 < 10 ^ (f + 1) := by
        rw [Nat.div_lt_iff_lt_mul (by omega), ← Nat.pow_succ]; exact h
      have := dec_len_le f (n / 10) h1
      rw [dec_big hn, List.length_append]
      simp; omega
/-- Six digits with leading zeros, as the program makes them. -/
theorem six_eq (n : Nat) : Go.Lib.repeatL [48] (6 - (decDigits (n % 1000000)).length) ++ decDigits (n % 1000000) = padL 6 n := by
  have hr : ∀ c, Go.Lib.repeatL [48] c = List.replicate c 48 := by
    intro c
    induction c with
    | zero => rfl
    | succ c ih => rw [Go.Lib.repeatL, ih, List.replicate_succ]; rfl
  rw [hr]
  have h := padL_dec 5 (n % 10 ^ 6) (Nat.mod_lt _ (by decide))
  rw [padL_mod] at h
  exact h
/-- Digits, none for 0. -/
def ddL (m : Nat) : List UInt8 := if m = 0 then [] else decDigits m
theorem ddL_zero : ddL 0 = [] := rfl
theorem ddL_pos {m : Nat} (h : 0 < m) : ddL m = decDigits m := by rw [ddL, if_neg (by omega)]
theorem ddL_step {m : Nat} (h : 0 < m) : ddL m = ddL (m / 10) ++ [dch m] := by
  rw [ddL_pos h]
  by_cases hn : m < 10
  · rw [dec_small hn, Nat.div_eq_of_lt hn, ddL_zero]; rfl
  · rw [dec_big hn, ddL_pos (by omega)]
/- little-endian bytes -/
def wideB (x i : Nat) : UInt8 := UInt8.ofNat (x / 256 ^ i % 256)
def wideL (x : Nat) : List UInt8 := (List.range 8).map (wideB x)
theorem wideL_len (x : Nat) : (wideL x).length = 8 := by simp [wideL]
theorem wideL_take {x k : Nat} (h : k < 8) : (wideL x).take (k + 1) = (wideL x).take k ++ [wideB x k] := by
  rw [List.take_succ_eq_append_getElem (by rw [wideL_len]; exact h)]
  simp [wideL]
end Go.Proofs.YtaaloiloklnbiaaGreatDoor
namespace Go.Proofs.YtaaloiloklnbiaaGreatDoor
open Go.RowKit
set_option linter.unusedVariables false
set_option linter.unusedSimpArgs false
theorem wideB_nat (x k : Nat) : (wideB x k).toNat = x / 256 ^ k % 256 := by
  unfold wideB
  rw [UInt8.toNat_ofNat']
  exact Nat.mod_mod _ _
theorem wide_int (x k : Nat) : (x : Int) / 2 ^ (8 * k) % 256 = ((wideB x k).toNat : Int) := by
  rw [wideB_nat]
  have e : (2 : Int) ^ (8 * k) = ((256 ^ k : Nat) : Int) := by
    have e8 : (2 : Int) ^ 8 = 256 := by decide
    rw [Int.pow_mul, e8, Int.natCast_pow]
    rfl
  rw [e]
  generalize 256 ^ k = p
  rw [Int.natCast_emod, Int.natCast_ediv]
  rfl
theorem wide_bits (x k : Nat) (hx : x ≤ 1099511627776) : bits .and .i64 ((x : Int) / 2 ^ (8 * k)) 255 % 256 = ((wideB x k).toNat : Int) := by
  have h0 : 0 ≤ (x : Int) / 2 ^ (8 * k) := Int.ediv_nonneg (by omega) (Int.pow_nonneg (by decide))
  have h1 : (x : Int) / 2 ^ (8 * k) ≤ x := Int.ediv_le_self _ (by omega)
  have h := bits_mask .i64 62 (by decide) (fun n h0 h1 => by rw [IntKind.wrap_i64]; omega) 8 (by decide) ((x : Int) / 2 ^ (8 * k)) h0 (by omega)
  have e : ((2 : Int) ^ 8 - 1) = 255 := by decide
  have e2 : ((2 : Int) ^ 8) = 256 := by decide
  rw [e, e2] at h
  rw [h, Int.emod_emod_of_dvd _ (Int.dvd_refl 256), wide_int]
/-- The cells of the row when k bytes are laid. -/
def wideC (x k : Nat) : List Value := (List.range 8).map fun i => if i < k then .int .u8 (wideB x i).toNat else .int .u8 0
theorem wideC_len (x k : Nat) : (wideC x k).length = 8 := by simp [wideC]
theorem wideC_set {x k : Nat} (h : k < 8) : (wideC x k).set k (.int .u8 (wideB x k).toNat) = wideC x (k + 1) := by
  apply List.ext_getElem
  · simp [wideC]
  · intro i h1 h2
    rw [List.getElem_set]
    simp only [wideC, List.getElem_map, List.getElem_range]
    by_cases e : k = i
    · subst e; rw [if_pos rfl, if_pos (by omega)]
    · rw [if_neg e]
      by_cases e2 : i < k
      · rw [if_pos e2, if_pos (by omega)]
      · rw [if_neg e2, if_neg (by omega)]
theorem wideC_end (x : Nat) : wideC x 8 = (wideL x).flatMap encByte := by
  simp [wideC, wideL, encByte, List.range_succ]
set_option maxHeartbeats 2000000 in
set_option maxRecDepth 10000 in
theorem specPutWide_hp (x : Nat) (w : World) (hx : x ≤ 1099511627776) :
    Calls Tryz.prog 77 #[.int .i64 x] w fun e w' => ∃ A c, e = .returned (.slice A (wideL x).length c) ∧ Hp w w' [rByte A c (wideL x)] := by
  obtain ⟨i0, hi0, hz0, hz1, hz2⟩ := info_parts Tryz.infoByte
  have hk : inR (x : Int) 0 1099511627776 = true := by simp [inR]; omega
  have H := Hp.nil w
  go_enter Tryz.func77, Tryz.ntmps77
  go_wp2_with (go_at_call 30; refine (l04Key_any _ _).mono ?_; rintro e w' ⟨rfl, rfl⟩)
  clear hk
  go_loopw [3, 4] (fun v i wr => ∃ k : Nat, k ≤ 8 ∧ i = .int .i64 k ∧ ∃ A' c', v = .slice A' ((wideL x).take k).length c' ∧ Hid (Hp w wr [rByte A' c' ((wideL x).take k)])) (fun _ i _ => 8 - (intOf i).toNat)
  case atStart => exact ⟨0, Nat.zero_le _, rfl, some ⟨w.heap.size, 0, none⟩, 0, rfl, Lib.hid (Hp.give (Hp.boxRow (by repeat (first | (with_reducible exact H) | (with_reducible apply Hp.alloc) | (with_reducible apply Hp.set) | (with_reducible apply Hp.drew) | (with_reducible apply Hp.drewN) | (with_reducible apply Hp.bytesW) | (with_reducible exact Upd.here) | (with_reducible exact Upd.hereR) | (with_reducible apply Upd.there) | (with_reducible apply Sz.alloc) | (with_reducible apply Sz.set) | (with_reducible apply Sz.drew) | (with_reducible apply Sz.drewN) | (with_reducible apply Sz.bytesW) | (with_reducible assumption) | (with_reducible exact Sz.base _))) 0 1 0 0 (by rfl) (by rfl) (Nat.le_refl _) (Nat.zero_le _)) [0] (by decide) (by rfl))⟩
  case round =>
    clear H
    obtain ⟨k, hk, rfl, A', c', rfl, HP⟩ := hrel
    have H := HP.out
    have F := H.facts; simp only [Facts, NeF, box, row, reg, cellsF, rByte, ne_eq, true_and, and_true, Nat.reduceAdd, Nat.zero_add] at F
    by_cases hlt : k < 8
    · have HT : Hid ((wideL x).take (k + 1) = (wideL x).take k ++ [wideB x k]) := wideL_take hlt
      have hlen : ((wideL x).take k).length = k := by rw [List.length_take, wideL_len]; omega
      have hl : ((wideL x).take k).length + 1 ≤ maxLen := by unfold maxLen; omega
      have hl2 : (((wideL x).take k).length + 1) * 1 ≤ 140737488355328 := by omega
      clear hlen HP
      generalize (wideL x).take k = ts at *
      have hbit := wide_bits x k hx
      go_wp2_with (at_builtin; refine wpList_append_lies _ (by rfl) _ _ 22 (by rfl) w.heap.size 5 i0 _ 1 _ Tryz.underlying22 hi0 hz0 hz1 hz2 (by rfl) (by decide) (.slice A' (ts.length) c') (ts.length) _ (by rfl) (Hp.rowM (by repeat (first | (with_reducible exact H) | (with_reducible apply Hp.alloc) | (with_reducible apply Hp.set) | (with_reducible apply Hp.drew) | (with_reducible apply Hp.drewN) | (with_reducible apply Hp.bytesW) | (with_reducible exact Upd.here) | (with_reducible exact Upd.hereR) | (with_reducible apply Upd.there) | (with_reducible apply Sz.alloc) | (with_reducible apply Sz.set) | (with_reducible apply Sz.drew) | (with_reducible apply Sz.drewN) | (with_reducible apply Sz.bytesW) | (with_reducible assumption) | (with_reducible exact Sz.base _))) (by repeat (first | (with_reducible exact List.mem_cons_self) | (with_reducible apply List.mem_cons_of_mem)))) ⟨wr.heap.size, 0, none⟩ 1 1 (encByte (wideB x k)) (by rfl) (by rfl) (Hp.news (by repeat (first | (with_reducible exact H) | (with_reducible apply Hp.alloc) | (with_reducible apply Hp.set) | (with_reducible apply Hp.drew) | (with_reducible apply Hp.drewN) | (with_reducible apply Hp.bytesW) | (with_reducible exact Upd.here) | (with_reducible exact Upd.hereR) | (with_reducible apply Upd.there) | (with_reducible apply Sz.alloc) | (with_reducible apply Sz.set) | (with_reducible apply Sz.drew) | (with_reducible apply Sz.drewN) | (with_reducible apply Sz.bytesW) | (with_reducible assumption) | (with_reducible exact Sz.base _))) 0 (by rfl)) (oneByte (wideB x k)) (by decide) hl (by omega) (Hp.b (by repeat (first | (with_reducible exact H) | (with_reducible apply Hp.alloc) | (with_reducible apply Hp.set) | (with_reducible apply Hp.drew) | (with_reducible apply Hp.drewN) | (with_reducible apply Hp.bytesW) | (with_reducible exact Upd.here) | (with_reducible exact Upd.hereR) | (with_reducible apply Upd.there) | (with_reducible apply Sz.alloc) | (with_reducible apply Sz.set) | (with_reducible apply Sz.drew) | (with_reducible apply Sz.drewN) | (with_reducible apply Sz.bytesW) | (with_reducible assumption) | (with_reducible exact Sz.base _)))).size _ rfl ?_; intro g cap wa hown hgrow hat hlt1; have H5 := Hp.appM (by repeat (first | (with_reducible exact H) | (with_reducible apply Hp.alloc) | (with_reducible apply Hp.set) | (with_reducible apply Hp.drew) | (with_reducible apply Hp.drewN) | (with_reducible apply Hp.bytesW) | (with_reducible exact Upd.here) | (with_reducible exact Upd.hereR) | (with_reducible apply Upd.there) | (with_reducible apply Sz.alloc) | (with_reducible apply Sz.set) | (with_reducible apply Sz.drew) | (with_reducible apply Sz.drewN) | (with_reducible apply Sz.bytesW) | (with_reducible assumption) | (with_reducible exact Sz.base _))) (by repeat (first | (with_reducible exact Rep.here) | (with_reducible apply Rep.there))) hown hgrow hat rfl hlt1; (try simp only [List.set_cons_zero, List.set_cons_succ, List.cons_append, List.nil_append] at H5); have FA := H5.facts; simp only [Facts, NeF, box, row, reg, cellsF, rByte, ne_eq, true_and, and_true, Nat.reduceAdd, Nat.zero_add] at FA)
      rw [rByte_snoc] at H5
      refine ⟨⟨k + 1, by omega, by go_num, some ⟨g, 0, none⟩, cap, ?_, ?_⟩, by simp [intOf]; omega⟩
      · rw [HT.out]; simp
      · rw [HT.out]; exact Lib.hid (by refine Hp.sel (by repeat (first | (with_reducible exact H5) | (with_reducible apply Hp.alloc) | (with_reducible apply Hp.set) | (with_reducible apply Hp.drew) | (with_reducible apply Hp.drewN) | (with_reducible apply Hp.bytesW) | (with_reducible exact Upd.here) | (with_reducible exact Upd.hereR) | (with_reducible apply Upd.there) | (with_reducible apply Sz.alloc) | (with_reducible apply Sz.set) | (with_reducible apply Sz.drew) | (with_reducible apply Sz.drewN) | (with_reducible apply Sz.bytesW) | (with_reducible assumption) | (with_reducible exact Sz.base _))) ?_; (try simp only [List.set_cons_zero, List.set_cons_succ]); exact (by repeat (first | (with_reducible exact Sel.nil) | (with_reducible apply Sel.cons) | (with_reducible exact Del.here) | (with_reducible apply Del.there))))
    · have HT : Hid ((wideL x).take k = wideL x) := List.take_of_length_le (by rw [wideL_len]; omega)
      rw [HT.out] at HP ⊢
      have H2 := HP.out
      go_wp2_with fail
      go_ret
      exact ⟨A', c', rfl, H2⟩
set_option maxHeartbeats 2000000 in
set_option maxRecDepth 10000 in
theorem putWide_hp (x : Nat) (w : World) (hx : x ≤ 1099511627776) :
    Calls Tryz.prog 89 #[.int .i64 x] w fun e w' => ∃ A c, e = .returned (.slice A (wideL x).length c) ∧ Hp w w' [rByte A c (wideL x)] := by
  have hmk : ∀ w, (Instr.makeSlice 22 (.int .i64 8) (.int .i64 8)).run Tryz.prog w = .ok (.slice (some ⟨w.heap.size, 0, none⟩) 8 8) (w.alloc (.cells #[.int .u8 0, .int .u8 0, .int .u8 0, .int .u8 0, .int .u8 0, .int .u8 0, .int .u8 0, .int .u8 0] 5)) := fun _ => by kernel_rfl
  have H := Hp.nil w
  go_enter Tryz.func89, Tryz.ntmps89
  go_wp2_with fail
  clear hmk
  go_loopw [8] (fun i wr => ∃ k : Nat, k ≤ 8 ∧ i = .int .i64 k ∧ Hid (Hp w wr [row 5 1 (.slice (some ⟨w.heap.size, 0, none⟩) 8 8) 8 (wideC x k)])) (fun i _ => 8 - (intOf i).toNat)
  case atStart => exact ⟨0, Nat.zero_le _, rfl, Lib.hid (Hp.give (Hp.boxRow (by repeat (first | (with_reducible exact H) | (with_reducible apply Hp.alloc) | (with_reducible apply Hp.set) | (with_reducible apply Hp.drew) | (with_reducible apply Hp.drewN) | (with_reducible apply Hp.bytesW) | (with_reducible exact Upd.here) | (with_reducible exact Upd.hereR) | (with_reducible apply Upd.there) | (with_reducible apply Sz.alloc) | (with_reducible apply Sz.set) | (with_reducible apply Sz.drew) | (with_reducible apply Sz.drewN) | (with_reducible apply Sz.bytesW) | (with_reducible assumption) | (with_reducible exact Sz.base _))) 0 1 8 8 (by rfl) (by rfl) (Nat.le_refl _) (by decide)) [0] (by decide) (by rfl))⟩
  case round =>
    clear H
    obtain ⟨k, hk, rfl, HP⟩ := hrel
    have H := HP.out
    by_cases hlt : k < 8
    · obtain ⟨v0, -, d0⟩ := own_cell (H.rowAt 0 rfl) (j := k) (by omega)
      have f0 := (H.rowAt 0 rfl).frozenAt k
      have hbit := wide_int x k
      have HC : Hid ((wideC x k).set k (.int .u8 (wideB x k).toNat) = wideC x (k + 1)) := wideC_set hlt
      go_wp2_with fail
      go_roundw
      case rel => exact ⟨k + 1, by omega, by go_num, by rw [← HC.out]; exact Lib.hid (by repeat (first | (with_reducible exact H) | (with_reducible apply Hp.alloc) | (with_reducible apply Hp.set) | (with_reducible apply Hp.drew) | (with_reducible apply Hp.drewN) | (with_reducible apply Hp.bytesW) | (with_reducible exact Upd.here) | (with_reducible exact Upd.hereR) | (with_reducible apply Upd.there) | (with_reducible apply Sz.alloc) | (with_reducible apply Sz.set) | (with_reducible apply Sz.drew) | (with_reducible apply Sz.drewN) | (with_reducible apply Sz.bytesW) | (with_reducible assumption) | (with_reducible exact Sz.base _)))⟩
      case measure => simp [intOf]; omega
    · obtain rfl : k = 8 := by omega
      have HE : Hid (wideC x 8 = (wideL x).flatMap encByte) := wideC_end x
      have hl : (wideL x).length = 8 := wideL_len x
      have HL := Lib.hid hl; clear hl
      go_wp2_with fail
      go_ret
      rw [HE.out] at H
      refine ⟨some ⟨w.heap.size, 0, none⟩, 8, by rw [HL.out]; rfl, ?_⟩
      rw [rByte, HL.out]
      exact H
end Go.Proofs.YtaaloiloklnbiaaGreatDoor

/- strings.Builder: writing, over footprints. No condition. -/
import Derived.Test.YtiooaephjjkgdaaDoorByte
import Derived.Test.YtiooaephjjkgdaaDoorHp
import Derived.Test.YtiooaephjjkgdaaDoorShelf
import Derived.Lib.Builder
import Derived.Lib.AppendStr
namespace Go.Proofs.YtiooaephjjkgdaaDoor
open Go.RowKit
set_option linter.unusedVariables false
set_option linter.unusedSimpArgs false
theorem run_append_str_lies {P : Program} (w : World) (base : Nat) (t u ty e : TypeId) (i : TypeInfo) (ht : P.underlying t = some (.slice e)) (hu : P.underlying u = some .string) (hi : P.info? e = some i) (hz : i.zero = some (.int .u8 0))
    (hsize : i.size = 1) (hby : i.bytes = 1) (v : Value) (n : Nat) (xs : List Value) (hown : w.ownsRow base e 1 v n xs) (s : ByteArray) (h0 : 0 < s.size) (hl : n + s.size ≤ 1000000) (hbase : base ≤ w.heap.size) (H : Nat) (hH : w.heap.size = H) :
    ∃ g cap w', (Builtin.append_ #[t, u] ty #[v, .string s]).run P w = .ok (.slice (some ⟨g, 0, none⟩) (n + s.size) cap) w' ∧
      w'.ownsRow base e 1 (.slice (some ⟨g, 0, none⟩) (n + s.size) cap) (n + s.size) (xs ++ Go.Lib.strCells s) ∧ w.grownBy w' v.ownBlock ∧ (v.ownBlock = some g ∨ g = H) ∧ g < w'.heap.size := by
  obtain ⟨v', w', hr, h2, h3, -⟩ := Go.Lib.run_append_own_string (P := P) w base t u ty e i ht hu hi hz hsize hby v n xs hown s (by unfold maxLen; omega) (by omega) hbase
  obtain ⟨g, cap, hv, hg0, hlt⟩ := h2.form (by omega)
  subst hv
  refine ⟨g, cap, w', hr, h2, h3, ?_, hlt⟩
  have hxl : xs.length = n := by simpa using hown.1
  rcases hown.2 with ⟨rfl, rfl⟩ | ⟨g1, cap1, cur, rfl, hbg, hg, hnc, hcm, hcs, htake⟩
  · right
    have hr2 := run_append_nil_string (P := P) w t u ty e i (.int .u8 0) ht hu hi hz s h0 (by omega) (by rw [hby]; omega)
    rw [hr] at hr2
    injection hr2 with e1 e2
    injection e1 with e1
    injection e1 with e1
    injection e1 with e1
    rw [e1, hH]
  · by_cases hroom : n + s.size ≤ cap1
    · left
      have hcs' : cur.size = cap1 := by simpa using hcs
      have hr2 := Go.Lib.run_append_room_string (P := P) w t u ty e i ht hu hi hsize g1 n cap1 cur hg s hroom (by omega)
      rw [hr] at hr2
      injection hr2 with e1 e2
      injection e1 with e1
      injection e1 with e1
      injection e1 with e1
      rw [e1]; rfl
    · right
      have holds : ∀ j u, xs[j]? = some u → w.cell? ((⟨g1, 0, none⟩ : Addr).add j) = some u := hown.cells (g := g1) rfl
      have hr2 := Go.Lib.run_append_grow_string (P := P) w t u ty e i (.int .u8 0) ht hu hi hz ⟨g1, 0, none⟩ n cap1 xs (by rw [hsize]; simpa using hxl) holds s (by omega) (by omega) (by rw [hby]; exact growslice_fits (by omega) (by omega))
      rw [hr] at hr2
      injection hr2 with e1 e2
      injection e1 with e1
      injection e1 with e1
      injection e1 with e1
      rw [e1, hH]
theorem wpList_append_str_lies {P : Program} {w : World} {ops : Array Oper} {rest : List Oper} {o : Oper} {a : Act} {Q : Exit → Act → World → Prop} (hgd : o.guard = none) (sl x : Operand) (t u : TypeId)
    (ho : o.op = .call { callee := .builtin .append, args := #[sl, x], argTypes := #[t, u] })
    (base : Nat) (e : TypeId) (i : TypeInfo) (ht : P.underlying t = some (.slice e)) (hu : P.underlying u = some .string) (hi : P.info? e = some i) (hz : i.zero = some (.int .u8 0))
    (hsize : i.size = 1) (hby : i.bytes = 1)
    (v : Value) (n : Nat) (xs : List Value) (hs : a.eval sl = v) (hown : w.ownsRow base e 1 v n xs) (s : ByteArray) (hx : a.eval x = .string s) (h0 : 0 < s.size) (hl : n + s.size ≤ 1000000) (hbase : base ≤ w.heap.size) (H : Nat) (hH : w.heap.size = H)
    (h : ∀ g cap w', w'.ownsRow base e 1 (.slice (some ⟨g, 0, none⟩) (n + s.size) cap) (n + s.size) (xs ++ Go.Lib.strCells s) → w.grownBy w' v.ownBlock → (v.ownBlock = some g ∨ g = H) → g < w'.heap.size → wpList P ops Q rest (a.put o.dst (.slice (some ⟨g, 0, none⟩) (n + s.size) cap)) w') : wpList P ops Q (o :: rest) a w := by
  refine wpList_plain hgd fun K hK => ?_
  obtain ⟨g, cap, w', hr, h2, h3, h4, h5⟩ := run_append_str_lies (P := P) w base t u o.type e i ht hu hi hz hsize hby v n xs hown s h0 hl hbase H hH
  unfold Oper.wp execOp
  simp only [ho, resolve, invoke, builtin, Sem.run_bind, Sem.run_pure, Result.andThen_ok, List.map_toArray, List.map_cons, List.map_nil, hs, hx, hr]
  exact hK _ _ (h g cap w' h2 h3 h4 h5)
theorem strCells_encB (s : List UInt8) : Go.Lib.strCells ⟨s.toArray⟩ = s.flatMap encByte := by
  induction s with
  | nil => rfl
  | cons a l ih =>
    rw [List.flatMap_cons, ← ih]
    simp [Go.Lib.strCells, encByte]
theorem byteCells_encB (s : List UInt8) : Go.Lib.byteCells s = s.flatMap encByte := by
  induction s with
  | nil => rfl
  | cons a l ih =>
    rw [List.flatMap_cons, ← ih]
    simp [Go.Lib.byteCells, encByte]
theorem Hp.tail {w0 w : World} {e : Ent} {L : List Ent} (H : Hp w0 w (e :: L)) : Hp w0 w L := H.sel ⟨[e], List.perm_append_singleton e L⟩
theorem Tryd.sizeBuild : (Tryd.prog.info? 114).map (·.size) = some 2 := by kernel_rfl
theorem Tryd.liesBuild : liesAt Tryd.prog (Tryd.prog).depth 114 (2 / (Tryd.prog).cellsOf 114) 0 114 1 = true := by kernel_rfl
set_option maxHeartbeats 2000000 in
set_option maxRecDepth 100000 in
theorem copyCheck_hp {w v : World} {L : List Ent} (b : Nat) (p : Option Addr) (x : Value) (H : Hp w v (box b 114 [.pointer p, x] :: L)) (hp : p = none ∨ p = some ⟨b, 0, none⟩) :
    Calls Tryd.prog 106 #[.pointer (some ⟨b, 0, none⟩)] v fun e w' => e = .returned (.tuple #[]) ∧ Hp w w' (box b 114 [.pointer (some ⟨b, 0, none⟩), x] :: L) := by
  obtain ⟨j, hj, hjs⟩ := Option.map_eq_some_iff.1 Tryd.sizeBuild
  have hbx := H.bx 0 rfl
  have c0 := hbx.cell 0
  have f0 := hbx.frozen 0
  have hsh : v.shape? b = some (114, 2) := by
    unfold Bx at hbx
    simp [World.shape?, hbx]
  have hlt := hbx.lt
  clear hbx
  simp at c0
  rcases hp with rfl | rfl
  · go_enter Tryd.func106, Tryd.ntmps106
    go_wp2
    rw [Go.Lib.run_to_unsafe v ⟨b, 0, none⟩ Tryd.underlying112 Tryd.underlying138 hj (by rw [hjs]; decide) hsh (Nat.zero_lt_succ 1)]
    simp only [Result.andThen]
    rw [Oper.upon_value]
    go_wp2
    rw [run_callFunc_extern Tryd.func117 (by kernel_rfl) (by kernel_rfl) (by kernel_rfl) (e := Extern.AbiNoEscape.same) (by kernel_rfl)]
    rw [Go.Lib.run_noEscape]
    simp only [Result.andThen]
    rw [Oper.upon_value]
    go_wp2
    rw [Go.Lib.run_from_unsafe v ⟨b, 0, none⟩ Tryd.underlying138 Tryd.underlying112 hj hsh Tryd.liesBuild]
    simp only [Result.andThen]
    rw [Oper.upon_value]
    go_wp2
    go_end0
    have H3 := Hp.set (b := b) (j := 0) (v := .pointer (some ⟨b, 0, none⟩)) H Upd.here
    (try simp only [List.set_cons_zero, List.set_cons_succ, List.cons_append, List.nil_append] at H3)
    exact ⟨rfl, H3⟩
  · go_enter Tryd.func106, Tryd.ntmps106
    go_wp2
    rw [Go.Lib.run_neq_ptr_same v _ Tryd.underlying112 hj]
    go_wp2
    go_end0
    exact ⟨rfl, H⟩
set_option maxHeartbeats 2000000 in
set_option maxRecDepth 100000 in
theorem writeString_hp {w v : World} {L : List Ent} (b : Nat) (p A : Option Addr) (c : Nat) (bs s : List UInt8) (S : ByteArray) (hS : S = ⟨s.toArray⟩) (H : Hp w v (box b 114 [.pointer p, .slice A bs.length c] :: rByte A c bs :: L)) (hp : p = none ∨ p = some ⟨b, 0, none⟩) (h0 : 0 < s.length) (hl : bs.length + s.length ≤ 1000000) :
    Calls Tryd.prog 90 #[.pointer (some ⟨b, 0, none⟩), .string S] v fun e w' => ∃ n A' c', e = .returned (.tuple #[.int .i64 n, .nilIface]) ∧ Hp w w' (box b 114 [.pointer (some ⟨b, 0, none⟩), .slice A' (bs ++ s).length c'] :: rByte A' c' (bs ++ s) :: L) := by
  obtain ⟨i0, hi0, hz0, hz1, hz2⟩ := info_parts Tryd.infoByte
  subst hS
  have hss : (⟨s.toArray⟩ : ByteArray).size = s.length := by simp [ByteArray.size]
  go_enter Tryd.func90, Tryd.ntmps90
  go_wp2_with (first | (go_at_call 106; refine (copyCheck_hp b p _ (by repeat (first | (with_reducible exact H) | (with_reducible apply Hp.alloc) | (with_reducible apply Hp.set) | (with_reducible apply Hp.drew) | (with_reducible apply Hp.drewN) | (with_reducible apply Hp.bytesW) | (with_reducible exact Upd.here) | (with_reducible exact Upd.hereR) | (with_reducible apply Upd.there) | (with_reducible apply Sz.alloc) | (with_reducible apply Sz.set) | (with_reducible apply Sz.drew) | (with_reducible apply Sz.drewN) | (with_reducible apply Sz.bytesW) | (with_reducible assumption) | (with_reducible exact Sz.base _))) hp).mono ?_; rintro e w1 ⟨rfl, H1⟩; have hbx := H1.bx 0 rfl; have c0 := hbx.cell 0; have c1 := hbx.cell 1; have f1 := hbx.frozen 1; have hlt := hbx.lt; clear hbx; simp at c0 c1) | (at_builtin; refine wpList_append_str_lies (by rfl) _ _ 44 9 (by rfl) w.heap.size 5 i0 Tryd.underlying44 Tryd.underlying9 hi0 hz0 hz1 hz2 (.slice A bs.length c) bs.length _ (by rfl) (Hp.rowM H1 (by repeat (first | (with_reducible exact List.mem_cons_self) | (with_reducible apply List.mem_cons_of_mem)))) ⟨s.toArray⟩ (by rfl) (by rw [hss]; exact h0) (by rw [hss]; exact hl) H1.b.size _ rfl ?_; intro g cap wa hown hgrow hat hlt1; have H2 := Hp.appM H1 (by repeat (first | (with_reducible exact Rep.here) | (with_reducible apply Rep.there))) hown hgrow hat rfl hlt1; (try simp only [List.set_cons_zero, List.set_cons_succ, List.cons_append, List.nil_append] at H2); have hbx2 := H2.bx 0 rfl; have d0 := hbx2.cell 0; have d1 := hbx2.cell 1; have g1 := hbx2.frozen 1; have hlt2 := hbx2.lt; clear hbx2; simp at d0 d1))
  go_ret2
  have hrow : (row 5 1 (.slice (some ⟨g, 0, none⟩) (bs.length + (⟨s.toArray⟩ : ByteArray).size) cap) (bs.length + (⟨s.toArray⟩ : ByteArray).size) (bs.flatMap encByte ++ Go.Lib.strCells ⟨s.toArray⟩)) = rByte (some ⟨g, 0, none⟩) cap (bs ++ s) := by
    rw [hss, strCells_encB, ← List.flatMap_append, ← List.length_append]
  have hln : bs.length + (⟨s.toArray⟩ : ByteArray).size = (bs ++ s).length := by rw [hss, List.length_append]
  rw [hrow] at H2
  refine ⟨_, some ⟨g, 0, none⟩, cap, rfl, ?_⟩
  rw [← hln]
  have H3 := Hp.set (b := b) (j := 1) (v := .slice (some ⟨g, 0, none⟩) (bs.length + (⟨s.toArray⟩ : ByteArray).size) cap) H2 Upd.here
  (try simp only [List.set_cons_zero, List.set_cons_succ, List.cons_append, List.nil_append] at H3)
  exact H3
set_option maxHeartbeats 2000000 in
set_option maxRecDepth 100000 in
theorem writeByte_hp {w v : World} {L : List Ent} (b : Nat) (p A : Option Addr) (c : Nat) (bs : List UInt8) (x : UInt8) (k : Int) (hk : k = x.toNat) (H : Hp w v (box b 114 [.pointer p, .slice A bs.length c] :: rByte A c bs :: L)) (hp : p = none ∨ p = some ⟨b, 0, none⟩) (hl : bs.length + 1 ≤ 1000000) :
    Calls Tryd.prog 92 #[.pointer (some ⟨b, 0, none⟩), .int .u8 k] v fun e w' => ∃ A' c', e = .returned .nilIface ∧ Hp w w' (box b 114 [.pointer (some ⟨b, 0, none⟩), .slice A' (bs ++ [x]).length c'] :: rByte A' c' (bs ++ [x]) :: L) := by
  subst hk
  obtain ⟨i0, hi0, hz0, hz1, hz2⟩ := info_parts Tryd.infoByte
  have hl1 : bs.length + 1 ≤ maxLen := by unfold maxLen; omega
  go_enter Tryd.func92, Tryd.ntmps92
  go_wp2_with (first | (go_at_call 106; refine (copyCheck_hp b p _ (by repeat (first | (with_reducible exact H) | (with_reducible apply Hp.alloc) | (with_reducible apply Hp.set) | (with_reducible apply Hp.drew) | (with_reducible apply Hp.drewN) | (with_reducible apply Hp.bytesW) | (with_reducible exact Upd.here) | (with_reducible exact Upd.hereR) | (with_reducible apply Upd.there) | (with_reducible apply Sz.alloc) | (with_reducible apply Sz.set) | (with_reducible apply Sz.drew) | (with_reducible apply Sz.drewN) | (with_reducible apply Sz.bytesW) | (with_reducible assumption) | (with_reducible exact Sz.base _))) hp).mono ?_; rintro e w1 ⟨rfl, H1⟩; have hbx := H1.bx 0 rfl; have c0 := hbx.cell 0; have c1 := hbx.cell 1; have f1 := hbx.frozen 1; have hlt := hbx.lt; clear hbx; simp at c0 c1) | (at_builtin; refine wpList_append_lies _ (by rfl) _ _ 44 (by rfl) w.heap.size 5 i0 _ 1 _ Tryd.underlying44 hi0 hz0 hz1 hz2 (by rfl) (by decide) (.slice A bs.length c) bs.length _ (by rfl) (Hp.rowM (by repeat (first | (with_reducible exact H1) | (with_reducible apply Hp.alloc) | (with_reducible apply Hp.set) | (with_reducible apply Hp.drew) | (with_reducible apply Hp.drewN) | (with_reducible apply Hp.bytesW) | (with_reducible exact Upd.here) | (with_reducible exact Upd.hereR) | (with_reducible apply Upd.there) | (with_reducible apply Sz.alloc) | (with_reducible apply Sz.set) | (with_reducible apply Sz.drew) | (with_reducible apply Sz.drewN) | (with_reducible apply Sz.bytesW) | (with_reducible assumption) | (with_reducible exact Sz.base _))) (by repeat (first | (with_reducible exact List.mem_cons_self) | (with_reducible apply List.mem_cons_of_mem)))) ⟨w1.heap.size, 0, none⟩ 1 1 (encByte x) (by rfl) (by rfl) (Hp.news (by repeat (first | (with_reducible exact H1) | (with_reducible apply Hp.alloc) | (with_reducible apply Hp.set) | (with_reducible apply Hp.drew) | (with_reducible apply Hp.drewN) | (with_reducible apply Hp.bytesW) | (with_reducible exact Upd.here) | (with_reducible exact Upd.hereR) | (with_reducible apply Upd.there) | (with_reducible apply Sz.alloc) | (with_reducible apply Sz.set) | (with_reducible apply Sz.drew) | (with_reducible apply Sz.drewN) | (with_reducible apply Sz.bytesW) | (with_reducible assumption) | (with_reducible exact Sz.base _))) 0 (by rfl)) (oneByte x) (by decide) hl1 (by omega) (Hp.b (by repeat (first | (with_reducible exact H1) | (with_reducible apply Hp.alloc) | (with_reducible apply Hp.set) | (with_reducible apply Hp.drew) | (with_reducible apply Hp.drewN) | (with_reducible apply Hp.bytesW) | (with_reducible exact Upd.here) | (with_reducible exact Upd.hereR) | (with_reducible apply Upd.there) | (with_reducible apply Sz.alloc) | (with_reducible apply Sz.set) | (with_reducible apply Sz.drew) | (with_reducible apply Sz.drewN) | (with_reducible apply Sz.bytesW) | (with_reducible assumption) | (with_reducible exact Sz.base _)))).size _ rfl ?_; intro g cap wa hown hgrow hat hlt1; have H2 := Hp.appM (by repeat (first | (with_reducible exact H1) | (with_reducible apply Hp.alloc) | (with_reducible apply Hp.set) | (with_reducible apply Hp.drew) | (with_reducible apply Hp.drewN) | (with_reducible apply Hp.bytesW) | (with_reducible exact Upd.here) | (with_reducible exact Upd.hereR) | (with_reducible apply Upd.there) | (with_reducible apply Sz.alloc) | (with_reducible apply Sz.set) | (with_reducible apply Sz.drew) | (with_reducible apply Sz.drewN) | (with_reducible apply Sz.bytesW) | (with_reducible assumption) | (with_reducible exact Sz.base _))) (by repeat (first | (with_reducible exact Rep.here) | (with_reducible apply Rep.there))) hown hgrow hat rfl hlt1; (try simp only [List.set_cons_zero, List.set_cons_succ, List.cons_append, List.nil_append] at H2); have hbx2 := H2.bx 1 rfl; have d0 := hbx2.cell 0; have d1 := hbx2.cell 1; have g1 := hbx2.frozen 1; have hlt2 := hbx2.lt; clear hbx2; simp at d0 d1))
  go_ret
  rw [rByte_snoc] at H2
  refine ⟨some ⟨g, 0, none⟩, cap, rfl, ?_⟩
  rw [List.length_append, List.length_singleton]
  have H3 := Hp.set (b := b) (j := 1) (v := .slice (some ⟨g, 0, none⟩) (bs.length + 1) cap) H2 (Upd.there Upd.here)
  (try simp only [List.set_cons_zero, List.set_cons_succ, List.cons_append, List.nil_append] at H3)
  exact Hp.tail H3
theorem builder_of {w v : World} {L : List Ent} {b c : Nat} {p A : Option Addr} {t : List UInt8} (H : Hp w v (box b 114 [.pointer p, .slice A t.length c] :: rByte A c t :: L)) (hp : p = none ∨ p = some ⟨b, 0, none⟩) : Go.Lib.IsBuilder 114 5 w.heap.size b (Go.Lib.byteCells t) v := by
  have hbx := H.bx 0 rfl
  have hB := ((H.ok _ List.mem_cons_self).lt b rfl).1
  have hown := H.rowM (t := 5) (k := 1) (v := .slice A t.length c) (n := t.length) (xs := t.flatMap encByte) (List.mem_cons_of_mem _ List.mem_cons_self)
  have hne : (Value.slice A t.length c).ownBlock ≠ some b := fun h => (List.pairwise_cons.1 H.3).1 (rByte A c t) List.mem_cons_self b rfl h
  have hlen : (Go.Lib.byteCells t).length = t.length := by simp [Go.Lib.byteCells]
  rw [← byteCells_encB] at hown
  have hat : Go.Lib.BuilderAt 114 5 w.heap.size b (.pointer p) (Go.Lib.byteCells t) v := ⟨hB, _, hbx, by rw [hlen]; exact hown, hne⟩
  rcases hp with rfl | rfl
  · exact .inl hat
  · exact .inr hat
theorem bString_hp {w v : World} {L : List Ent} (b c : Nat) (p A : Option Addr) (t : List UInt8) (H : Hp w v (box b 114 [.pointer p, .slice A t.length c] :: rByte A c t :: L)) (hp : p = none ∨ p = some ⟨b, 0, none⟩) :
    Calls Tryd.prog 93 #[.pointer (some ⟨b, 0, none⟩)] v fun e w' => e = .returned (.string ⟨t.toArray⟩) ∧ Below w.heap.size v w' := Tryd.Builder_String_any w.heap.size b t v (builder_of H hp) H.b.size
end Go.Proofs.YtiooaephjjkgdaaDoor

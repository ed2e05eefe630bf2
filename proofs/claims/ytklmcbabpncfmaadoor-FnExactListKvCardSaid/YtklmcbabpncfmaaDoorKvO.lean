/- Stores: an entry laid open, to be shut with other versions, behind the head of their block or not; an entry put in. No condition. -/
import Derived.Test.YtklmcbabpncfmaaDoorKvJ
import Derived.Test.YtklmcbabpncfmaaDoorStX
import Derived.Test.YtklmcbabpncfmaaDoorM1
namespace Go.Proofs.YtklmcbabpncfmaaDoor
open Go.RowKit
set_option linter.unusedVariables false
theorem row_rowx {t : TypeId} {k n c : Nat} {A : Option Addr} {xs : List Value} {w : World} (h : (row t k (.slice A n c) n xs).P w) : (rowx t k A n c xs).P w := Or.inl h
theorem row_rowx1 {t : TypeId} {k n c g : Nat} {pre xs : List Value} {w : World} (hp : pre.length = k) (hc : n + 1 ≤ c) (h : (row t k (.slice (some ⟨g, 0, none⟩) (n + 1) c) (n + 1) (pre ++ xs)).P w) : (rowx t k (some ⟨g, k, none⟩) n (c - 1) xs).P w := by
  have h : w.ownsRow 0 t k (.slice (some ⟨g, 0, none⟩) (n + 1) c) (n + 1) (pre ++ xs) := h
  refine Or.inr ⟨g, 1, pre, by rw [Nat.one_mul], by rw [hp, Nat.one_mul], ?_⟩
  have e : 1 + (c - 1) = c := by omega
  rw [e, Nat.add_comm 1 n]
  exact h
theorem wk_of {w : World} {e e' : Ent} {L : List Ent} (h1 : ∀ b, e'.S b → e.S b) (h2 : e.P w → e'.P w) : Wk w (e :: L) (e' :: L) := .cons h1 h2 (Wk.refl L)
theorem stoE_openX {w0 w : World} {D : List Ent} {A va : Option Addr} {c n vc i : Nat} {es : List Entry} {path : ByteArray} {first : Int} {vs : List Ver} (H : Hp w0 w (stoE A c n es :: D)) (hi : i < es.length) (he : es[i] = ⟨path, first, vs, va, vc⟩) :
    ∃ N, Hp w0 w (row 71 4 (.slice va vs.length vc) vs.length (vs.flatMap encVer) :: row 62 3 (.slice A n c) n (es.flatMap encEntry) :: (D ++ (vs.flatMap verF ++ N))) ∧
      ∀ (e' : Entry) (D' : List Ent) (w' : World), Hp w0 w' (row 62 3 (.slice A n c) n ((es.set i e').flatMap encEntry) :: (entX e' ++ (D' ++ N))) → Hp w0 w' (stoX A c n (es.set i e') :: D') := by
  have hself : es = es.take i ++ (⟨path, first, vs, va, vc⟩ : Entry) :: es.drop (i + 1) := by rw [← he, ← List.drop_eq_getElem_cons hi, List.take_append_drop]
  have hF : es.flatMap entF = (es.take i).flatMap entF ++ (entF ⟨path, first, vs, va, vc⟩ ++ (es.drop (i + 1)).flatMap entF) := by
    conv => lhs; rw [hself]
    rw [List.flatMap_append, List.flatMap_cons]
  refine ⟨(es.take i).flatMap entF ++ (es.drop (i + 1)).flatMap entF, ?_, fun e' D' w' H' => ?_⟩
  · have H2 := Hp.unpack D (stoR A c n es) (H.perm (List.perm_append_singleton _ _))
    refine H2.perm ?_
    show List.Perm _ (D ++ (row 62 3 (.slice A n c) n (es.flatMap encEntry) :: es.flatMap entF))
    rw [hF]
    show List.Perm _ (D ++ (_ :: (_ ++ ((row 71 4 (.slice va vs.length vc) vs.length (vs.flatMap encVer) :: vs.flatMap verF) ++ _))))
    generalize row 71 4 (.slice va vs.length vc) vs.length (vs.flatMap encVer) = a
    generalize row 62 3 (.slice A n c) n (es.flatMap encEntry) = b
    generalize vs.flatMap verF = X
    generalize (es.take i).flatMap entF = T
    generalize (es.drop (i + 1)).flatMap entF = U
    letI : DecidableEq Ent := fun a b => Classical.propDecidable (a = b)
    rw [List.perm_iff_count]
    intro e
    simp only [List.count_cons, List.count_append]
    omega
  · have H2 := H'.weak (Wk.cons (fun _ h => h) (fun h => h) (Wk.append (Wk.refl _) (Wk.append (Wk.refl _) (Wk.append (wk_ent _) (wk_ent _)))))
    have hX : (es.set i e').flatMap entX = (es.take i).flatMap entX ++ (entX e' ++ (es.drop (i + 1)).flatMap entX) := by
      rw [List.set_eq_take_append_cons_drop, if_pos hi, List.flatMap_append, List.flatMap_cons]
    refine (Hp.pack D' (stoXR A c n (es.set i e')) (H2.perm ?_)).perm (List.perm_append_singleton _ _).symm
    show List.Perm (D' ++ (row 62 3 (.slice A n c) n ((es.set i e').flatMap encEntry) :: (es.set i e').flatMap entX)) _
    rw [hX]
    generalize row 62 3 (.slice A n c) n ((es.set i e').flatMap encEntry) = b
    generalize entX e' = X
    generalize (es.take i).flatMap entX = T
    generalize (es.drop (i + 1)).flatMap entX = U
    letI : DecidableEq Ent := fun a b => Classical.propDecidable (a = b)
    rw [List.perm_iff_count]
    intro e
    simp only [List.count_cons, List.count_append]
    omega
theorem stoE_list {w0 w : World} {D : List Ent} {A : Option Addr} {c n : Nat} {es : List Entry} (H : Hp w0 w (stoE A c n es :: D)) : Hp w0 w (row 62 3 (.slice A n c) n (es.flatMap encEntry) :: (D ++ es.flatMap entF)) :=
  (Hp.unpack D (stoR A c n es) (H.perm (List.perm_append_singleton _ _))).perm List.perm_middle.symm
theorem Hp.into {w0 w : World} {L R : List Ent} (H : Hp w0 w L) (h : Hp w0 w L → Hp w0 w R) : Hp w0 w R := h H
theorem call_at {P : Program} {f : Nat} {args : Array Value} {w0 w : World} {L : List Ent} {Q : Ending → World → Prop} (H : Hp w0 w L) (k : Hp w0 w L → Calls P f args w Q) : Calls P f args w Q := k H
theorem stoE_del {w0 w : World} {L L' : List Ent} {A : Option Addr} {c n : Nat} {es : List Entry} (H : Hp w0 w L) (h : Del L (stoE A c n es) L') : Hp w0 w (row 62 3 (.slice A n c) n (es.flatMap encEntry) :: (L' ++ es.flatMap entF)) := stoE_list (H.perm h)
theorem Hp.boxVer {w0 w : World} {L L' : List Ent} {g dC : Nat} {da : Option Addr} {data : List UInt8} {now : Int} (H : Hp w0 w L) (h : Del L (box g 71 [.slice da data.length dC, .int .i64 now, .bool false, .bool false]) L') : Hp w0 w (row 71 4 (.slice (some ⟨g, 0, none⟩) 1 1) 1 (encVer ⟨data, da, dC, now, false, false⟩) :: L') :=
  Hp.boxRow (H.perm h) 0 4 1 1 rfl rfl (Nat.le_refl _) (by unfold maxLen; omega)
theorem stoX_ins {w0 w : World} {D : List Ent} {A : Option Addr} {c n p : Nat} {es : List Entry} {u : Entry} (H : Hp w0 w (row 62 3 (.slice A n c) n ((es.take p ++ u :: es.drop p).flatMap encEntry) :: (entX u ++ (D ++ es.flatMap entF)))) : Hp w0 w (stoX A c n (es.take p ++ u :: es.drop p) :: D) := by
  have H2 := H.weak (Wk.cons (fun _ h => h) (fun h => h) (Wk.append (Wk.refl _) (Wk.append (Wk.refl _) (wk_ent _))))
  have hX : (es.take p ++ u :: es.drop p).flatMap entX = (es.take p).flatMap entX ++ (entX u ++ (es.drop p).flatMap entX) := by
    rw [List.flatMap_append, List.flatMap_cons]
  have hE : es.flatMap entX = (es.take p).flatMap entX ++ (es.drop p).flatMap entX := by rw [← List.flatMap_append, List.take_append_drop]
  rw [hE] at H2
  refine (Hp.pack D (stoXR A c n (es.take p ++ u :: es.drop p)) (H2.perm ?_)).perm (List.perm_append_singleton _ _).symm
  show List.Perm (D ++ (row 62 3 (.slice A n c) n ((es.take p ++ u :: es.drop p).flatMap encEntry) :: (es.take p ++ u :: es.drop p).flatMap entX)) _
  rw [hX]
  generalize row 62 3 (.slice A n c) n ((es.take p ++ u :: es.drop p).flatMap encEntry) = b
  generalize entX u = X
  generalize (es.take p).flatMap entX = T
  generalize (es.drop p).flatMap entX = U
  letI : DecidableEq Ent := fun a b => Classical.propDecidable (a = b)
  rw [List.perm_iff_count]
  intro e
  simp only [List.count_cons, List.count_append]
  omega
theorem insEntry_hpn {w0 w : World} {L : List Ent} (A : Option Addr) (n c i vb : Nat) (us : List Entry) (u : Entry) (hn : us.length = n) (H : Hp w0 w L) (hm : row 62 3 (.slice A n c) n (us.flatMap encEntry) ∈ L) (hb : box vb 62 (encEntry u) ∈ L) (h20 : n ≤ 1048576) (hin : i ≤ n) (hne : ∀ a, A = some a → vb ≠ a.block) :
    Calls Tryd.prog 73 #[.slice A n c, .int .i64 i, .slice (some ⟨vb, 0, none⟩) 1 1] w fun e w' => ∃ A' c', e = .returned (.slice A' (n + 1) c') ∧ ∀ L', Rep L (row 62 3 (.slice A n c) n (us.flatMap encEntry)) (row 62 3 (.slice A' (n + 1) c') (n + 1) ((us.take i ++ u :: us.drop i).flatMap encEntry)) L' → Hp w0 w' L' := by
  subst hn
  refine (insEntry_hp A c i vb us u H hm hb h20 hin hne).mono ?_
  rintro e w' ⟨A', c', rfl, h⟩
  refine ⟨A', c', rfl, fun L' hr => h L' ?_⟩
  have hl : (us.take i ++ u :: us.drop i).length = us.length + 1 := by rw [List.length_append, List.length_cons, List.length_take, List.length_drop]; omega
  unfold rEntry
  rw [hl]
  exact hr
end Go.Proofs.YtklmcbabpncfmaaDoor

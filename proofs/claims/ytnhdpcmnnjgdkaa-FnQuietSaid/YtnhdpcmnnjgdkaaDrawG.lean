/- Draws of externals whose users are known, and of queues. No condition. -/
import Derived.Test.YtnhdpcmnnjgdkaaDrawU
import Derived.Test.YtnhdpcmnnjgdkaaEnJob
import Derived.Test.YtnhdpcmnnjgdkaaM1
import Derived.Deep.DeepCutAuto
set_option linter.unusedVariables false
set_option linter.unusedSimpArgs false
namespace Go.Proofs.Ytnhdpcmnnjgdkaa
open Go.RowKit
set_option linter.unusedVariables false
set_option linter.unusedSimpArgs false
theorem rowGq {w : World} {B k n c : Nat} {e : TypeId} {A : Option Addr} {xs : List Value} (h : w.ownsRow B e k (.slice A n c) n xs) (h0 : 0 < n) : ∃ g, A = some ⟨g, 0, none⟩ := by
  rcases h.2 with ⟨e1, e2⟩ | ⟨g, cap, cur, e1, _⟩
  · omega
  · injection e1 with e1 _ _; exact ⟨g, e1⟩
theorem Hp.ne_rowQ {w0 w : World} {L : List Ent} {f g n c m k : Nat} {t e : TypeId} {cs xs : List Value} (H : Hp w0 w L) (h : Sel L [box f t cs, row e k (.slice (some ⟨g, 0, none⟩) n c) m xs]) : ¬ g = f ∧ ¬ f = g := by
  have h2 := (List.pairwise_cons.1 (H.sel h).ap).1 _ List.mem_cons_self
  have h3 : ¬ g = f := fun e1 => h2 f rfl (by show (Value.slice (some ⟨g, 0, none⟩) n c).ownBlock = some f; rw [← e1]; rfl)
  exact ⟨h3, fun e1 => h3 e1.symm⟩
theorem padQ_nameCh : ∀ (f n : Nat) (b : UInt8), b ∈ padL f n → nameCh b = true
  | 0, _, _, h => by simp [padL] at h
  | f + 1, n, b, h => by
    rw [padL, List.mem_append] at h
    rcases h with h | h
    · exact padQ_nameCh f _ b h
    · have h2 : b = dch n := by simpa using h
      rw [h2]
      have h3 : (dch n).toNat = 48 + n % 10 := by unfold dch; rw [UInt8.toNat_ofNat']; omega
      simp only [nameCh, h3]
      simp
      omega
theorem nameQ_ok {nm pf : ByteArray} {ttl lim : Int} (h : roleOk nm pf ttl lim = true) (n : Nat) : isNm (nameL pf n) = true := by
  have h2 : isNm pf = true ∧ pf.size ≤ 6 := by simp [roleOk] at h; exact ⟨h.2.1, by omega⟩
  obtain ⟨h3, h4⟩ := h2
  have h7 : (ByteArray.mk (padL 6 n).toArray).size = 6 := by show (padL 6 n).toArray.size = 6; rw [List.size_toArray, padL_len]
  have hsz : (nameL pf n).size = pf.size + 6 := by rw [nameL, ByteArray.size_append, h7]
  simp only [isNm, Bool.and_eq_true] at h3 ⊢
  refine ⟨?_, ?_⟩
  · rw [hsz]; simp [inR]; omega
  · have h5 := h3.2
    simp only [allB] at h5 ⊢
    have e1 : (nameL pf n).data.toList = pf.data.toList ++ padL 6 n := by simp [nameL]
    rw [e1, List.all_append, h5, Bool.true_and, List.all_eq_true]
    exact fun b hb => padQ_nameCh 6 n b hb
theorem nameF_small (nm pf : ByteArray) (ttl lim n : Int) : (nameF nm pf ttl lim n).size ≤ 20 := by
  rw [nameF]
  split
  · next h =>
    have := nm_size (nameQ_ok h.1 n.toNat)
    omega
  · decide
theorem passF_fits (key : Int) (s : ByteArray) : (passF key s).size ≤ maxLen := by
  rw [passF]
  split
  · obtain ⟨d, -, hd, he⟩ := dig_nat (passL key s)
    rw [he]
    have := dec_len_le 18 d (by show d < 10000000000000000000; omega)
    have e2 : (ByteArray.mk (Go.Lib.decDigits d).toArray).size = (Go.Lib.decDigits d).length := by simp [ByteArray.size]
    rw [e2]; unfold maxLen; omega
  · unfold maxLen; decide
theorem flat_setQ {α : Type} {enc : α → List Value} {m : Nat} (hm : ∀ x, (enc x).length = m) : ∀ (us : List α) (k j : Nat) (v : Value) (x' : α) (hk : k < us.length), j < m → enc x' = (enc us[k]).set j v → (us.flatMap enc).set (k * m + j) v = (us.set k x').flatMap enc
  | [], k, j, v, x', hk, _, _ => absurd hk (Nat.not_lt_zero _)
  | u :: us, 0, j, v, x', hk, hj, hx => by
    rw [List.flatMap_cons, List.set_cons_zero, List.flatMap_cons, Nat.zero_mul, Nat.zero_add, List.set_append_left _ _ (by rw [hm]; exact hj), hx]; rfl
  | u :: us, k + 1, j, v, x', hk, hj, hx => by
    rw [List.flatMap_cons, List.set_cons_succ, List.flatMap_cons, List.set_append_right _ _ (by rw [hm, Nat.succ_mul]; omega), hm, show (k + 1) * m + j - m = k * m + j by rw [Nat.succ_mul]; omega, flat_setQ hm us k j v x' (Nat.lt_of_succ_lt_succ hk) hj hx]
/-- What a drawn user is. -/
def UserQ (u : User) : Prop := u.name.size ≤ 20 ∧ u.pass.size ≤ maxLen
def JobQ (j : Job) : Prop := j.name.size ≤ 20
theorem UserQ.fits {u : User} (h : UserQ u) : UserFits u := ⟨by have := h.1; unfold maxLen; omega, h.2⟩
theorem JobQ.fits {j : Job} (h : JobQ j) : JobFits j := by have : j.name.size ≤ 20 := h; unfold JobFits maxLen; omega
theorem all_snoc {α : Type} {P : α → Prop} {us : List α} {u : α} (h : ∀ x ∈ us, P x) (hu : P u) : ∀ x ∈ us ++ [u], P x := by
  intro x hx
  rcases List.mem_append.1 hx with hx | hx
  · exact h x hx
  · rw [List.mem_singleton.1 hx]; exact hu
theorem all_set {α : Type} {P : α → Prop} {us : List α} {k : Nat} {u : α} (h : ∀ x ∈ us, P x) (hu : P u) : ∀ x ∈ us.set k u, P x := by
  intro x hx
  rcases List.mem_or_eq_of_mem_set hx with hx | rfl
  · exact h x hx
  · exact hu
theorem call_atQ {P : Program} {f : Nat} {args : Array Value} {w0 w : World} {L : List Ent} {Q : Ending → World → Prop} (H : Hp w0 w L) (k : Hp w0 w L → Calls P f args w Q) : Calls P f args w Q := k H
theorem Hp.intoQ {w0 w : World} {L R : List Ent} (H : Hp w0 w L) (h : Hp w0 w L → Hp w0 w R) : Hp w0 w R := h H
set_option maxHeartbeats 16000000 in
set_option maxRecDepth 10000 in
theorem l11DrawFarQ_hp (b : Nat) (A : Option Addr) (n c : Nat) (bs : List UInt8) (w v : World) (X : Ent) (m : Nat) (H : Hp w v [curE b A n c, X]) (hm9 : m ≤ 120) (hr : Rd w w.heap.size 1 A n c (bs.flatMap encByte)) (hn : bs.length = n) :
    Calls Try.prog 35 #[.pointer (some ⟨b, 0, none⟩), .int .i64 m] v fun e w' => ∃ (A1 : Option Addr) (d : Nat) (us : List User) (x1 x2 : Int), e = .returned (.agg #[.slice A1 us.length d, .int .i64 x1, .int .i64 x2]) ∧ us.length ≤ 121 ∧ (∀ u ∈ us, UserQ u) ∧ Hp w w' [rUser A1 d us, curE b A n c, X] := by
  obtain ⟨i0, hi0, hz0, hz1, hz2⟩ := info_parts Try.infoUser
  have hm : curE b A n c ∈ [curE b A n c, X] := List.mem_cons_self
  go_enter Try.func35, Try.ntmps35
  go_wp2_with fail
  refine (l01Below_hp b A n c bs w _ _ _ (by repeat (first | (with_reducible exact H) | (with_reducible apply Hp.alloc) | (with_reducible apply Hp.set) | (with_reducible apply Hp.drew) | (with_reducible apply Hp.drewN) | (with_reducible apply Hp.bytesW) | (with_reducible exact Upd.here) | (with_reducible exact Upd.hereR) | (with_reducible apply Upd.there) | (with_reducible apply Sz.alloc) | (with_reducible apply Sz.set) | (with_reducible apply Sz.drew) | (with_reducible apply Sz.drewN) | (with_reducible apply Sz.bytesW) | (with_reducible assumption) | (with_reducible exact Sz.base _))) (by repeat (first | (with_reducible exact hm) | (with_reducible exact List.mem_cons_self) | (with_reducible apply List.mem_cons_of_mem))) hr hn (by omega) (by omega)).mono ?_
  rintro e w1 ⟨x1, rfl, hx1, H1⟩
  (try simp only [List.set_cons_zero, List.set_cons_succ, List.cons_append, List.nil_append] at H1)
  (try clear F)
  have F := H1.facts; simp only [Facts, NeF, box, row, reg, cellsF, rUser, rJob, ne_eq, true_and, and_true, Nat.reduceAdd, Nat.zero_add] at F
  go_wp2_with fail
  refine (l01PickInt_t b A n c bs w _ _ _ _ _ (by repeat (first | (with_reducible exact H1) | (with_reducible apply Hp.alloc) | (with_reducible apply Hp.set) | (with_reducible apply Hp.drew) | (with_reducible apply Hp.drewN) | (with_reducible apply Hp.bytesW) | (with_reducible exact Upd.here) | (with_reducible exact Upd.hereR) | (with_reducible apply Upd.there) | (with_reducible apply Sz.alloc) | (with_reducible apply Sz.set) | (with_reducible apply Sz.drew) | (with_reducible apply Sz.drewN) | (with_reducible apply Sz.bytesW) | (with_reducible assumption) | (with_reducible exact Sz.base _))) (by repeat (first | (with_reducible exact hm) | (with_reducible exact List.mem_cons_self) | (with_reducible apply List.mem_cons_of_mem))) (by repeat (first | (with_reducible exact List.mem_cons_self) | (with_reducible apply List.mem_cons_of_mem))) (by rfl) (by omega) (by omega) (by repeat (first | exact trivial | refine ⟨⟨_, rfl⟩, ?_⟩)) hr hn).mono ?_
  rintro e w2 ⟨x2, rfl, H2⟩
  (try simp only [List.set_cons_zero, List.set_cons_succ, List.cons_append, List.nil_append] at H2)
  (try clear F)
  have F := H2.facts; simp only [Facts, NeF, box, row, reg, cellsF, rUser, rJob, ne_eq, true_and, and_true, Nat.reduceAdd, Nat.zero_add] at F
  go_wp2_with fail
  refine (l01PickText_hp b A n c bs w _ _ _ _ _ (by repeat (first | (with_reducible exact H2) | (with_reducible apply Hp.alloc) | (with_reducible apply Hp.set) | (with_reducible apply Hp.drew) | (with_reducible apply Hp.drewN) | (with_reducible apply Hp.bytesW) | (with_reducible exact Upd.here) | (with_reducible exact Upd.hereR) | (with_reducible apply Upd.there) | (with_reducible apply Sz.alloc) | (with_reducible apply Sz.set) | (with_reducible apply Sz.drew) | (with_reducible apply Sz.drewN) | (with_reducible apply Sz.bytesW) | (with_reducible assumption) | (with_reducible exact Sz.base _))) (by repeat (first | (with_reducible exact hm) | (with_reducible exact List.mem_cons_self) | (with_reducible apply List.mem_cons_of_mem))) (by repeat (first | (with_reducible exact List.mem_cons_self) | (with_reducible apply List.mem_cons_of_mem))) (by rfl) (by omega) (by omega) (by repeat (first | exact trivial | refine ⟨⟨_, rfl, by decide⟩, ?_⟩)) hr hn).mono ?_
  rintro e w3 ⟨s1, rfl, hs1, H3⟩
  (try simp only [List.set_cons_zero, List.set_cons_succ, List.cons_append, List.nil_append] at H3)
  (try clear F)
  try (have F := H3.facts; simp only [Facts, NeF, box, row, reg, cellsF, rUser, rJob, ne_eq, true_and, and_true, Nat.reduceAdd, Nat.zero_add] at F)
  generalize hfb : w2.heap.size = fb at *
  clear hfb
  go_wp2_with fail
  have HH := Lib.hid H3
  clear F H H1 H2 H3
  go_loopw [7] (fun i wr => ∃ (k : Nat) (A1 : Option Addr) (d : Nat) (us : List User), k ≤ m ∧ i = .int .i64 k ∧ Hid (us.length = k) ∧ Hid (∀ u ∈ us, UserQ u) ∧ Hid (Hp w wr [rUser A1 d us, box fb 29 [.slice A1 us.length d, .int .i64 0, .int .i64 x2], box w3.heap.size 81 [.string ⟨#[100, 98]⟩, .string s1, .int .i64 1, .int .i64 1], box v.heap.size 29 [.slice none 0 0, .int .i64 0, .int .i64 0], curE b A n c, X])) (fun i _ => m - (intOf i).toNat)
  case atStart =>
    have H := HH.out
    exact ⟨0, none, 0, [], Nat.zero_le _, rfl, rfl, Lib.hid (fun u hu => by cases hu), Lib.hid (Hp.give (Hp.cons_nilRow (by repeat (first | (with_reducible exact H) | (with_reducible apply Hp.alloc) | (with_reducible apply Hp.set) | (with_reducible apply Hp.drew) | (with_reducible apply Hp.drewN) | (with_reducible apply Hp.bytesW) | (with_reducible exact Upd.here) | (with_reducible exact Upd.hereR) | (with_reducible apply Upd.there) | (with_reducible apply Sz.alloc) | (with_reducible apply Sz.set) | (with_reducible apply Sz.drew) | (with_reducible apply Sz.drewN) | (with_reducible apply Sz.bytesW) | (with_reducible assumption) | (with_reducible exact Sz.base _))) 53 2) [0, 3, 1, 5, 6, 7] (by decide) (by rfl))⟩
  case round =>
    clear HH
    obtain ⟨k, A1, d, us, hk, rfl, HL, HU, HP⟩ := hrel
    have H := HP.out
    have F := H.facts; simp only [Facts, NeF, box, row, reg, cellsF, rUser, rJob, ne_eq, true_and, and_true, Nat.reduceAdd, Nat.zero_add] at F
    have hu9 : us.length ≤ 120 := by have := HL.out; omega
    by_cases hlt : k < m
    · have hk1 : (k : Int) < (m : Int) := by omega
      have hwk : IntKind.i64.wrap ((k : Int) + 1) = (k : Int) + 1 := by rw [IntKind.wrap_i64]; omega
      have hl1 : us.length + 1 ≤ maxLen := by unfold maxLen; omega
      have HK1 : Hid (k + 1 ≤ m ∧ m - (k + 1) < m - k) := ⟨by omega, by omega⟩
      go_wp2_with fail
      refine (specUserName_any _ s1 1 1 ((k : Int) + 1) _ (by unfold maxLen; decide) (by unfold maxLen; omega)).mono ?_
      rintro e w8 ⟨rfl, q8⟩
      replace H := Hp.step (by repeat (first | (with_reducible exact H) | (with_reducible apply Hp.alloc) | (with_reducible apply Hp.set) | (with_reducible apply Hp.drew) | (with_reducible apply Hp.drewN) | (with_reducible apply Hp.bytesW) | (with_reducible exact Upd.here) | (with_reducible exact Upd.hereR) | (with_reducible apply Upd.there) | (with_reducible apply Sz.alloc) | (with_reducible apply Sz.set) | (with_reducible apply Sz.drew) | (with_reducible apply Sz.drewN) | (with_reducible apply Sz.bytesW) | (with_reducible assumption) | (with_reducible exact Sz.base _))) q8; (try simp only [List.set_cons_zero, List.set_cons_succ, List.cons_append, List.nil_append] at H); clear q8 F; have F := H.facts; simp only [Facts, NeF, box, row, reg, cellsF, rUser, rJob, ne_eq, true_and, and_true, Nat.reduceAdd, Nat.zero_add] at F
      have hnq := nameF_small ⟨#[100, 98]⟩ s1 1 1 ((k : Int) + 1)
      have hnm : (nameF ⟨#[100, 98]⟩ s1 1 1 ((k : Int) + 1)).size ≤ maxLen := by unfold maxLen; omega
      generalize nameF ⟨#[100, 98]⟩ s1 1 1 ((k : Int) + 1) = nm at *
      go_wp2_with fail
      go_region_law (first | (refine step_append_lies _ (by rfl) _ _ 27 (by rfl) w.heap.size 53 i0 _ 2 _ Try.underlying27 hi0 hz0 hz1 hz2 (by rfl) (by decide) (.slice A1 (us.length) d) (us.length) _ (by rfl) (Hp.rowM (by repeat (first | (with_reducible exact H) | (with_reducible apply Hp.alloc) | (with_reducible apply Hp.set) | (with_reducible apply Hp.drew) | (with_reducible apply Hp.drewN) | (with_reducible apply Hp.bytesW) | (with_reducible exact Upd.here) | (with_reducible exact Upd.hereR) | (with_reducible apply Upd.there) | (with_reducible apply Sz.alloc) | (with_reducible apply Sz.set) | (with_reducible apply Sz.drew) | (with_reducible apply Sz.drewN) | (with_reducible apply Sz.bytesW) | (with_reducible assumption) | (with_reducible exact Sz.base _))) (by repeat (first | (with_reducible exact List.mem_cons_self) | (with_reducible apply List.mem_cons_of_mem)))) ⟨w9.heap.size, 0, none⟩ 1 1 (encUser ⟨nm, passF 7 nm⟩) (by rfl) (by rfl) (Hp.news (by repeat (first | (with_reducible exact H) | (with_reducible apply Hp.alloc) | (with_reducible apply Hp.set) | (with_reducible apply Hp.drew) | (with_reducible apply Hp.drewN) | (with_reducible apply Hp.bytesW) | (with_reducible exact Upd.here) | (with_reducible exact Upd.hereR) | (with_reducible apply Upd.there) | (with_reducible apply Sz.alloc) | (with_reducible apply Sz.set) | (with_reducible apply Sz.drew) | (with_reducible apply Sz.drewN) | (with_reducible apply Sz.bytesW) | (with_reducible assumption) | (with_reducible exact Sz.base _))) 0 (by rfl)) (oneUser ⟨nm, passF 7 nm⟩) (by decide) hl1 (by omega) (Hp.b (by repeat (first | (with_reducible exact H) | (with_reducible apply Hp.alloc) | (with_reducible apply Hp.set) | (with_reducible apply Hp.drew) | (with_reducible apply Hp.drewN) | (with_reducible apply Hp.bytesW) | (with_reducible exact Upd.here) | (with_reducible exact Upd.hereR) | (with_reducible apply Upd.there) | (with_reducible apply Sz.alloc) | (with_reducible apply Sz.set) | (with_reducible apply Sz.drew) | (with_reducible apply Sz.drewN) | (with_reducible apply Sz.bytesW) | (with_reducible assumption) | (with_reducible exact Sz.base _)))).size _ rfl ?_; intro g cap wa hown hgrow hat hlt1; have H5 := Hp.appM (by repeat (first | (with_reducible exact H) | (with_reducible apply Hp.alloc) | (with_reducible apply Hp.set) | (with_reducible apply Hp.drew) | (with_reducible apply Hp.drewN) | (with_reducible apply Hp.bytesW) | (with_reducible exact Upd.here) | (with_reducible exact Upd.hereR) | (with_reducible apply Upd.there) | (with_reducible apply Sz.alloc) | (with_reducible apply Sz.set) | (with_reducible apply Sz.drew) | (with_reducible apply Sz.drewN) | (with_reducible apply Sz.bytesW) | (with_reducible assumption) | (with_reducible exact Sz.base _))) (by repeat (first | (with_reducible exact Rep.here) | (with_reducible apply Rep.there))) hown hgrow hat rfl hlt1; (try simp only [List.set_cons_zero, List.set_cons_succ, List.cons_append, List.nil_append] at H5); have FA := H5.facts; simp only [Facts, NeF, box, row, reg, cellsF, rUser, rJob, ne_eq, true_and, and_true, Nat.reduceAdd, Nat.zero_add] at FA) | (go_simp; go_at_call 10; refine (specUserPass_any 7 nm _ hnm).mono ?_; rintro e w9 ⟨rfl, q9⟩; replace H := Hp.step (by repeat (first | (with_reducible exact H) | (with_reducible apply Hp.alloc) | (with_reducible apply Hp.set) | (with_reducible apply Hp.drew) | (with_reducible apply Hp.drewN) | (with_reducible apply Hp.bytesW) | (with_reducible exact Upd.here) | (with_reducible exact Upd.hereR) | (with_reducible apply Upd.there) | (with_reducible apply Sz.alloc) | (with_reducible apply Sz.set) | (with_reducible apply Sz.drew) | (with_reducible apply Sz.drewN) | (with_reducible apply Sz.bytesW) | (with_reducible assumption) | (with_reducible exact Sz.base _))) q9; (try simp only [List.set_cons_zero, List.set_cons_succ, List.cons_append, List.nil_append] at H); clear q9 F; have F := H.facts; simp only [Facts, NeF, box, row, reg, cellsF, rUser, rJob, ne_eq, true_and, and_true, Nat.reduceAdd, Nat.zero_add] at F))
      all_goals
        rw [rUser_snoc] at H5
        go_wp2_with fail
        go_roundw
        case rel => exact ⟨k + 1, some ⟨g, 0, none⟩, cap, us ++ [⟨nm, passF 7 nm⟩], HK1.out.1, by go_num, by show _ = _; rw [List.length_append, HL.out]; rfl, Lib.hid (all_snoc HU.out ⟨hnq, passF_fits _ _⟩), Lib.hid (by simpa using (by refine Hp.sel (by repeat (first | (with_reducible exact H5) | (with_reducible apply Hp.alloc) | (with_reducible apply Hp.set) | (with_reducible apply Hp.drew) | (with_reducible apply Hp.drewN) | (with_reducible apply Hp.bytesW) | (with_reducible exact Upd.here) | (with_reducible exact Upd.hereR) | (with_reducible apply Upd.there) | (with_reducible apply Sz.alloc) | (with_reducible apply Sz.set) | (with_reducible apply Sz.drew) | (with_reducible apply Sz.drewN) | (with_reducible apply Sz.bytesW) | (with_reducible assumption) | (with_reducible exact Sz.base _))) ?_; (try simp only [List.set_cons_zero, List.set_cons_succ]); exact (by repeat (first | (with_reducible exact Sel.nil) | (with_reducible apply Sel.cons) | (with_reducible exact Del.here) | (with_reducible apply Del.there)))))⟩
        case measure => have := HK1.out.2; simp [intOf]; omega
    · have HKM : Hid (us.length = m) := by show _ = _; have := HL.out; omega
      have hk1 : ¬ (k : Int) < (m : Int) := by omega
      go_wp2_with fail
      refine (l01Below_hp b A n c bs w _ _ _ (by repeat (first | (with_reducible exact H) | (with_reducible apply Hp.alloc) | (with_reducible apply Hp.set) | (with_reducible apply Hp.drew) | (with_reducible apply Hp.drewN) | (with_reducible apply Hp.bytesW) | (with_reducible exact Upd.here) | (with_reducible exact Upd.hereR) | (with_reducible apply Upd.there) | (with_reducible apply Sz.alloc) | (with_reducible apply Sz.set) | (with_reducible apply Sz.drew) | (with_reducible apply Sz.drewN) | (with_reducible apply Sz.bytesW) | (with_reducible assumption) | (with_reducible exact Sz.base _))) (by repeat (first | (with_reducible exact hm) | (with_reducible exact List.mem_cons_self) | (with_reducible apply List.mem_cons_of_mem))) hr hn (by omega) (by omega)).mono ?_
      rintro e w10 ⟨x10, rfl, hx10, H10⟩
      (try simp only [List.set_cons_zero, List.set_cons_succ, List.cons_append, List.nil_append] at H10)
      (try clear F)
      have F := H10.facts; simp only [Facts, NeF, box, row, reg, cellsF, rUser, rJob, ne_eq, true_and, and_true, Nat.reduceAdd, Nat.zero_add] at F
      go_wp2_with fail
      refine (l01Below_hp b A n c bs w _ _ _ (by repeat (first | (with_reducible exact H10) | (with_reducible apply Hp.alloc) | (with_reducible apply Hp.set) | (with_reducible apply Hp.drew) | (with_reducible apply Hp.drewN) | (with_reducible apply Hp.bytesW) | (with_reducible exact Upd.here) | (with_reducible exact Upd.hereR) | (with_reducible apply Upd.there) | (with_reducible apply Sz.alloc) | (with_reducible apply Sz.set) | (with_reducible apply Sz.drew) | (with_reducible apply Sz.drewN) | (with_reducible apply Sz.bytesW) | (with_reducible assumption) | (with_reducible exact Sz.base _))) (by repeat (first | (with_reducible exact hm) | (with_reducible exact List.mem_cons_self) | (with_reducible apply List.mem_cons_of_mem))) hr hn (by omega) (by omega)).mono ?_
      rintro e w11 ⟨x11, rfl, hx11, H11⟩
      (try simp only [List.set_cons_zero, List.set_cons_succ, List.cons_append, List.nil_append] at H11)
      (try clear F)
      have F := H11.facts; simp only [Facts, NeF, box, row, reg, cellsF, rUser, rJob, ne_eq, true_and, and_true, Nat.reduceAdd, Nat.zero_add] at F
      go_wp2_with fail
      refine (l01PickInt_t b A n c bs w _ _ _ _ _ (by repeat (first | (with_reducible exact H11) | (with_reducible apply Hp.alloc) | (with_reducible apply Hp.set) | (with_reducible apply Hp.drew) | (with_reducible apply Hp.drewN) | (with_reducible apply Hp.bytesW) | (with_reducible exact Upd.here) | (with_reducible exact Upd.hereR) | (with_reducible apply Upd.there) | (with_reducible apply Sz.alloc) | (with_reducible apply Sz.set) | (with_reducible apply Sz.drew) | (with_reducible apply Sz.drewN) | (with_reducible apply Sz.bytesW) | (with_reducible assumption) | (with_reducible exact Sz.base _))) (by repeat (first | (with_reducible exact hm) | (with_reducible exact List.mem_cons_self) | (with_reducible apply List.mem_cons_of_mem))) (by repeat (first | (with_reducible exact List.mem_cons_self) | (with_reducible apply List.mem_cons_of_mem))) (by rfl) (by omega) (by omega) (by repeat (first | exact trivial | refine ⟨⟨_, rfl⟩, ?_⟩)) hr hn).mono ?_
      rintro e w12 ⟨x12, rfl, H12⟩
      (try simp only [List.set_cons_zero, List.set_cons_succ, List.cons_append, List.nil_append] at H12)
      (try clear F)
      have F := H12.facts; simp only [Facts, NeF, box, row, reg, cellsF, rUser, rJob, ne_eq, true_and, and_true, Nat.reduceAdd, Nat.zero_add] at F
      go_wp2_with fail
      refine (l01Once_hp b A n c bs w _ _ _ (by repeat (first | (with_reducible exact H12) | (with_reducible apply Hp.alloc) | (with_reducible apply Hp.set) | (with_reducible apply Hp.drew) | (with_reducible apply Hp.drewN) | (with_reducible apply Hp.bytesW) | (with_reducible exact Upd.here) | (with_reducible exact Upd.hereR) | (with_reducible apply Upd.there) | (with_reducible apply Sz.alloc) | (with_reducible apply Sz.set) | (with_reducible apply Sz.drew) | (with_reducible apply Sz.drewN) | (with_reducible apply Sz.bytesW) | (with_reducible assumption) | (with_reducible exact Sz.base _))) (by repeat (first | (with_reducible exact hm) | (with_reducible exact List.mem_cons_self) | (with_reducible apply List.mem_cons_of_mem))) hr hn (by omega) (by omega)).mono ?_
      rintro e w13 ⟨x13, rfl, H13⟩
      (try simp only [List.set_cons_zero, List.set_cons_succ, List.cons_append, List.nil_append] at H13)
      clear F H H10 H11 H12
      have F := H13.facts; simp only [Facts, NeF, box, row, reg, cellsF, rUser, rJob, ne_eq, true_and, and_true, Nat.reduceAdd, Nat.zero_add] at F
      cases x13 with
      | false =>
        go_wp2_with fail
        refine bodyPost_ret (v := .agg #[.slice A1 us.length d, .int .i64 x12, .int .i64 x2]) (by simp [results, Try.results35, go_sem, F]) rfl ⟨A1, d, us, _, _, rfl, (by omega), HU.out, (by refine Hp.sel (by repeat (first | (with_reducible exact H13) | (with_reducible apply Hp.alloc) | (with_reducible apply Hp.set) | (with_reducible apply Hp.drew) | (with_reducible apply Hp.drewN) | (with_reducible apply Hp.bytesW) | (with_reducible exact Upd.here) | (with_reducible exact Upd.hereR) | (with_reducible apply Upd.there) | (with_reducible apply Sz.alloc) | (with_reducible apply Sz.set) | (with_reducible apply Sz.drew) | (with_reducible apply Sz.drewN) | (with_reducible apply Sz.bytesW) | (with_reducible assumption) | (with_reducible exact Sz.base _))) ?_; (try simp only [List.set_cons_zero, List.set_cons_succ]); exact (by repeat (first | (with_reducible exact Sel.nil) | (with_reducible apply Sel.cons) | (with_reducible exact Del.here) | (with_reducible apply Del.there))))⟩
      | true =>
      go_wp2_with fail
      refine (l01Below_hp b A n c bs w _ _ _ (by repeat (first | (with_reducible exact H13) | (with_reducible apply Hp.alloc) | (with_reducible apply Hp.set) | (with_reducible apply Hp.drew) | (with_reducible apply Hp.drewN) | (with_reducible apply Hp.bytesW) | (with_reducible exact Upd.here) | (with_reducible exact Upd.hereR) | (with_reducible apply Upd.there) | (with_reducible apply Sz.alloc) | (with_reducible apply Sz.set) | (with_reducible apply Sz.drew) | (with_reducible apply Sz.drewN) | (with_reducible apply Sz.bytesW) | (with_reducible assumption) | (with_reducible exact Sz.base _))) (by repeat (first | (with_reducible exact hm) | (with_reducible exact List.mem_cons_self) | (with_reducible apply List.mem_cons_of_mem))) hr hn (by omega) (by omega)).mono ?_
      rintro e w14 ⟨x14, rfl, hx14, H14⟩
      (try simp only [List.set_cons_zero, List.set_cons_succ, List.cons_append, List.nil_append] at H14)
      (try clear F)
      have F := H14.facts; simp only [Facts, NeF, box, row, reg, cellsF, rUser, rJob, ne_eq, true_and, and_true, Nat.reduceAdd, Nat.zero_add] at F
      rcases (show x14 = 0 ∨ x14 = 1 ∨ x14 = 2 ∨ x14 = 3 by omega) with rfl | rfl | rfl | rfl
      · clear H13 hx14
        have H := H14; clear H14
        go_wp2_with (first | (go_at_call 32; refine (l01Below_hp b A n c bs w _ _ _ (by repeat (first | (with_reducible exact H) | (with_reducible apply Hp.alloc) | (with_reducible apply Hp.set) | (with_reducible apply Hp.drew) | (with_reducible apply Hp.drewN) | (with_reducible apply Hp.bytesW) | (with_reducible exact Upd.here) | (with_reducible exact Upd.hereR) | (with_reducible apply Upd.there) | (with_reducible apply Sz.alloc) | (with_reducible apply Sz.set) | (with_reducible apply Sz.drew) | (with_reducible apply Sz.drewN) | (with_reducible apply Sz.bytesW) | (with_reducible assumption) | (with_reducible exact Sz.base _))) (by repeat (first | (with_reducible exact hm) | (with_reducible exact List.mem_cons_self) | (with_reducible apply List.mem_cons_of_mem))) hr hn (by omega) (by omega)).mono ?_; rintro e wz2 ⟨x2, rfl, hx2, H2⟩; replace H := H2; clear H2; (try simp only [List.set_cons_zero, List.set_cons_succ, List.cons_append, List.nil_append] at H); (try clear F); (try have F := H.facts; simp only [Facts, NeF, box, row, reg, cellsF, rUser, rJob, ne_eq, true_and, and_true, Nat.reduceAdd, Nat.zero_add] at F)) | (go_at_call 34; refine (l01Once_hp b A n c bs w _ _ _ (by repeat (first | (with_reducible exact H) | (with_reducible apply Hp.alloc) | (with_reducible apply Hp.set) | (with_reducible apply Hp.drew) | (with_reducible apply Hp.drewN) | (with_reducible apply Hp.bytesW) | (with_reducible exact Upd.here) | (with_reducible exact Upd.hereR) | (with_reducible apply Upd.there) | (with_reducible apply Sz.alloc) | (with_reducible apply Sz.set) | (with_reducible apply Sz.drew) | (with_reducible apply Sz.drewN) | (with_reducible apply Sz.bytesW) | (with_reducible assumption) | (with_reducible exact Sz.base _))) (by repeat (first | (with_reducible exact hm) | (with_reducible exact List.mem_cons_self) | (with_reducible apply List.mem_cons_of_mem))) hr hn (by omega) (by omega)).mono ?_; rintro e wz3 ⟨x3, rfl, H3⟩; replace H := H3; clear H3; (try simp only [List.set_cons_zero, List.set_cons_succ, List.cons_append, List.nil_append] at H); (try clear F); (try have F := H.facts; simp only [Facts, NeF, box, row, reg, cellsF, rUser, rJob, ne_eq, true_and, and_true, Nat.reduceAdd, Nat.zero_add] at F)) | (go_at_call 37; refine (l01PickText_hp b A n c bs w _ _ _ _ _ (by repeat (first | (with_reducible exact H) | (with_reducible apply Hp.alloc) | (with_reducible apply Hp.set) | (with_reducible apply Hp.drew) | (with_reducible apply Hp.drewN) | (with_reducible apply Hp.bytesW) | (with_reducible exact Upd.here) | (with_reducible exact Upd.hereR) | (with_reducible apply Upd.there) | (with_reducible apply Sz.alloc) | (with_reducible apply Sz.set) | (with_reducible apply Sz.drew) | (with_reducible apply Sz.drewN) | (with_reducible apply Sz.bytesW) | (with_reducible assumption) | (with_reducible exact Sz.base _))) (by repeat (first | (with_reducible exact hm) | (with_reducible exact List.mem_cons_self) | (with_reducible apply List.mem_cons_of_mem))) (by repeat (first | (with_reducible exact List.mem_cons_self) | (with_reducible apply List.mem_cons_of_mem))) (by rfl) (by omega) (by omega) (by repeat (first | exact trivial | refine ⟨⟨_, rfl, by decide⟩, ?_⟩)) hr hn).mono ?_; rintro e w5 ⟨x5, rfl, hx5, H5⟩; replace H := H5; clear H5; (try simp only [List.set_cons_zero, List.set_cons_succ, List.cons_append, List.nil_append] at H); (try clear F); (try have F := H.facts; simp only [Facts, NeF, box, row, reg, cellsF, rUser, rJob, ne_eq, true_and, and_true, Nat.reduceAdd, Nat.zero_add] at F)) | (go_at_call 36; refine (l01PickInt_t b A n c bs w _ _ _ _ _ (by repeat (first | (with_reducible exact H) | (with_reducible apply Hp.alloc) | (with_reducible apply Hp.set) | (with_reducible apply Hp.drew) | (with_reducible apply Hp.drewN) | (with_reducible apply Hp.bytesW) | (with_reducible exact Upd.here) | (with_reducible exact Upd.hereR) | (with_reducible apply Upd.there) | (with_reducible apply Sz.alloc) | (with_reducible apply Sz.set) | (with_reducible apply Sz.drew) | (with_reducible apply Sz.drewN) | (with_reducible apply Sz.bytesW) | (with_reducible assumption) | (with_reducible exact Sz.base _))) (by repeat (first | (with_reducible exact hm) | (with_reducible exact List.mem_cons_self) | (with_reducible apply List.mem_cons_of_mem))) (by repeat (first | (with_reducible exact List.mem_cons_self) | (with_reducible apply List.mem_cons_of_mem))) (by rfl) (by omega) (by omega) (by repeat (first | exact trivial | refine ⟨⟨_, rfl⟩, ?_⟩)) hr hn).mono ?_; rintro e w4 ⟨x4, rfl, H4⟩; replace H := H4; clear H4; (try simp only [List.set_cons_zero, List.set_cons_succ, List.cons_append, List.nil_append] at H); (try clear F); (try have F := H.facts; simp only [Facts, NeF, box, row, reg, cellsF, rUser, rJob, ne_eq, true_and, and_true, Nat.reduceAdd, Nat.zero_add] at F)))
        refine bodyPost_ret (v := .agg #[.slice A1 us.length d, .int .i64 x4, .int .i64 x2]) (by simp [results, Try.results35, go_sem, F]) rfl ⟨A1, d, us, _, _, rfl, (by omega), HU.out, (by refine Hp.sel (by repeat (first | (with_reducible exact H) | (with_reducible apply Hp.alloc) | (with_reducible apply Hp.set) | (with_reducible apply Hp.drew) | (with_reducible apply Hp.drewN) | (with_reducible apply Hp.bytesW) | (with_reducible exact Upd.here) | (with_reducible exact Upd.hereR) | (with_reducible apply Upd.there) | (with_reducible apply Sz.alloc) | (with_reducible apply Sz.set) | (with_reducible apply Sz.drew) | (with_reducible apply Sz.drewN) | (with_reducible apply Sz.bytesW) | (with_reducible assumption) | (with_reducible exact Sz.base _))) ?_; (try simp only [List.set_cons_zero, List.set_cons_succ]); exact (by repeat (first | (with_reducible exact Sel.nil) | (with_reducible apply Sel.cons) | (with_reducible exact Del.here) | (with_reducible apply Del.there))))⟩
      · clear H13 hx14
        have H := H14; clear H14
        go_wp2_with (first | (go_at_call 32; refine (l01Below_hp b A n c bs w _ _ _ (by repeat (first | (with_reducible exact H) | (with_reducible apply Hp.alloc) | (with_reducible apply Hp.set) | (with_reducible apply Hp.drew) | (with_reducible apply Hp.drewN) | (with_reducible apply Hp.bytesW) | (with_reducible exact Upd.here) | (with_reducible exact Upd.hereR) | (with_reducible apply Upd.there) | (with_reducible apply Sz.alloc) | (with_reducible apply Sz.set) | (with_reducible apply Sz.drew) | (with_reducible apply Sz.drewN) | (with_reducible apply Sz.bytesW) | (with_reducible assumption) | (with_reducible exact Sz.base _))) (by repeat (first | (with_reducible exact hm) | (with_reducible exact List.mem_cons_self) | (with_reducible apply List.mem_cons_of_mem))) hr hn (by omega) (by omega)).mono ?_; rintro e wz2 ⟨x2, rfl, hx2, H2⟩; replace H := H2; clear H2; (try simp only [List.set_cons_zero, List.set_cons_succ, List.cons_append, List.nil_append] at H); (try clear F); (try have F := H.facts; simp only [Facts, NeF, box, row, reg, cellsF, rUser, rJob, ne_eq, true_and, and_true, Nat.reduceAdd, Nat.zero_add] at F)) | (go_at_call 34; refine (l01Once_hp b A n c bs w _ _ _ (by repeat (first | (with_reducible exact H) | (with_reducible apply Hp.alloc) | (with_reducible apply Hp.set) | (with_reducible apply Hp.drew) | (with_reducible apply Hp.drewN) | (with_reducible apply Hp.bytesW) | (with_reducible exact Upd.here) | (with_reducible exact Upd.hereR) | (with_reducible apply Upd.there) | (with_reducible apply Sz.alloc) | (with_reducible apply Sz.set) | (with_reducible apply Sz.drew) | (with_reducible apply Sz.drewN) | (with_reducible apply Sz.bytesW) | (with_reducible assumption) | (with_reducible exact Sz.base _))) (by repeat (first | (with_reducible exact hm) | (with_reducible exact List.mem_cons_self) | (with_reducible apply List.mem_cons_of_mem))) hr hn (by omega) (by omega)).mono ?_; rintro e wz3 ⟨x3, rfl, H3⟩; replace H := H3; clear H3; (try simp only [List.set_cons_zero, List.set_cons_succ, List.cons_append, List.nil_append] at H); (try clear F); (try have F := H.facts; simp only [Facts, NeF, box, row, reg, cellsF, rUser, rJob, ne_eq, true_and, and_true, Nat.reduceAdd, Nat.zero_add] at F)) | (go_at_call 37; refine (l01PickText_hp b A n c bs w _ _ _ _ _ (by repeat (first | (with_reducible exact H) | (with_reducible apply Hp.alloc) | (with_reducible apply Hp.set) | (with_reducible apply Hp.drew) | (with_reducible apply Hp.drewN) | (with_reducible apply Hp.bytesW) | (with_reducible exact Upd.here) | (with_reducible exact Upd.hereR) | (with_reducible apply Upd.there) | (with_reducible apply Sz.alloc) | (with_reducible apply Sz.set) | (with_reducible apply Sz.drew) | (with_reducible apply Sz.drewN) | (with_reducible apply Sz.bytesW) | (with_reducible assumption) | (with_reducible exact Sz.base _))) (by repeat (first | (with_reducible exact hm) | (with_reducible exact List.mem_cons_self) | (with_reducible apply List.mem_cons_of_mem))) (by repeat (first | (with_reducible exact List.mem_cons_self) | (with_reducible apply List.mem_cons_of_mem))) (by rfl) (by omega) (by omega) (by repeat (first | exact trivial | refine ⟨⟨_, rfl, by decide⟩, ?_⟩)) hr hn).mono ?_; rintro e w5 ⟨x5, rfl, hx5, H5⟩; replace H := H5; clear H5; (try simp only [List.set_cons_zero, List.set_cons_succ, List.cons_append, List.nil_append] at H); (try clear F); (try have F := H.facts; simp only [Facts, NeF, box, row, reg, cellsF, rUser, rJob, ne_eq, true_and, and_true, Nat.reduceAdd, Nat.zero_add] at F)) | (go_at_call 36; refine (l01PickInt_t b A n c bs w _ _ _ _ _ (by repeat (first | (with_reducible exact H) | (with_reducible apply Hp.alloc) | (with_reducible apply Hp.set) | (with_reducible apply Hp.drew) | (with_reducible apply Hp.drewN) | (with_reducible apply Hp.bytesW) | (with_reducible exact Upd.here) | (with_reducible exact Upd.hereR) | (with_reducible apply Upd.there) | (with_reducible apply Sz.alloc) | (with_reducible apply Sz.set) | (with_reducible apply Sz.drew) | (with_reducible apply Sz.drewN) | (with_reducible apply Sz.bytesW) | (with_reducible assumption) | (with_reducible exact Sz.base _))) (by repeat (first | (with_reducible exact hm) | (with_reducible exact List.mem_cons_self) | (with_reducible apply List.mem_cons_of_mem))) (by repeat (first | (with_reducible exact List.mem_cons_self) | (with_reducible apply List.mem_cons_of_mem))) (by rfl) (by omega) (by omega) (by repeat (first | exact trivial | refine ⟨⟨_, rfl⟩, ?_⟩)) hr hn).mono ?_; rintro e w4 ⟨x4, rfl, H4⟩; replace H := H4; clear H4; (try simp only [List.set_cons_zero, List.set_cons_succ, List.cons_append, List.nil_append] at H); (try clear F); (try have F := H.facts; simp only [Facts, NeF, box, row, reg, cellsF, rUser, rJob, ne_eq, true_and, and_true, Nat.reduceAdd, Nat.zero_add] at F)))
        refine bodyPost_ret (v := .agg #[.slice A1 us.length d, .int .i64 x12, .int .i64 x4]) (by simp [results, Try.results35, go_sem, F]) rfl ⟨A1, d, us, _, _, rfl, (by omega), HU.out, (by refine Hp.sel (by repeat (first | (with_reducible exact H) | (with_reducible apply Hp.alloc) | (with_reducible apply Hp.set) | (with_reducible apply Hp.drew) | (with_reducible apply Hp.drewN) | (with_reducible apply Hp.bytesW) | (with_reducible exact Upd.here) | (with_reducible exact Upd.hereR) | (with_reducible apply Upd.there) | (with_reducible apply Sz.alloc) | (with_reducible apply Sz.set) | (with_reducible apply Sz.drew) | (with_reducible apply Sz.drewN) | (with_reducible apply Sz.bytesW) | (with_reducible assumption) | (with_reducible exact Sz.base _))) ?_; (try simp only [List.set_cons_zero, List.set_cons_succ]); exact (by repeat (first | (with_reducible exact Sel.nil) | (with_reducible apply Sel.cons) | (with_reducible exact Del.here) | (with_reducible apply Del.there))))⟩
      · clear H13 hx14
        by_cases hm2 : 1 < m
        · have hm2i : (1 : Int) < (m : Int) := by omega
          have hm2b : decide ((1 : Int) < (m : Int)) = true := decide_eq_true hm2i
          have how := H14.rowM (L := _) (show row 53 2 (.slice A1 us.length d) us.length (us.flatMap encUser) ∈ _ from (by repeat (first | (with_reducible exact List.mem_cons_self) | (with_reducible apply List.mem_cons_of_mem))))
          obtain ⟨g, rfl⟩ := rowGq how (by have := HKM.out; omega)
          obtain ⟨v0, -, d0⟩ := own_cell how (j := 0) (by have := HKM.out; omega)
          obtain ⟨v2, hv2, d2⟩ := own_cell how (j := 2) (by have := HKM.out; omega)
          have f0 := how.frozenAt 0
          have hu1n : 1 < us.length := by have := HKM.out; omega
          have HS := Lib.hid (HU.out us[1] (List.getElem_mem hu1n)).1
          have hs9 : v2 = .string us[1].name := by
            have h9 := flat_get encUser 2 encUser_len us 1 0 (by omega)
            rw [show 1 * 2 + 0 = 2 from rfl, hv2, List.getElem?_eq_getElem hu1n] at h9
            injection h9
          subst hs9
          have hu0n : 0 < us.length := by omega
          have HY : Hid (UserQ { us[0] with name := us[1].name }) := ⟨HS.out, (HU.out us[0] (List.getElem_mem hu0n)).2⟩
          have HE : Hid (encUser { us[0] with name := us[1].name } = (encUser us[0]).set 0 (.string us[1].name)) := rfl
          generalize { us[0] with name := us[1].name } = y0 at *
          generalize us[1].name = s9 at *
          clear HS
          have hu0 : (0 : Int) < (us.length : Int) := by have := HKM.out; omega
          have hu1 : (1 : Int) < (us.length : Int) := by have := HKM.out; omega
          have hgl := (how.lt g rfl).2
          clear how hv2
          clear F
          have F := H14.facts; simp only [Facts, NeF, box, row, reg, cellsF, rUser, rJob, ne_eq, true_and, and_true, Nat.reduceAdd, Nat.zero_add] at F
          have hg1 := H14.ne_rowQ (f := fb) (g := g) (n := us.length) (c := d) (m := us.length) (k := 2) (e := 53) (xs := us.flatMap encUser) (by repeat (first | (with_reducible exact Sel.nil) | (with_reducible apply Sel.cons) | (with_reducible exact Del.here) | (with_reducible apply Del.there)))
          have hg2 := H14.ne_rowQ (f := v.heap.size) (g := g) (n := us.length) (c := d) (m := us.length) (k := 2) (e := 53) (xs := us.flatMap encUser) (by repeat (first | (with_reducible exact Sel.nil) | (with_reducible apply Sel.cons) | (with_reducible exact Del.here) | (with_reducible apply Del.there)))
          go_wp2_with fail
          go_region
          go_wp2_with fail
          refine bodyPost_ret (v := .agg #[.slice (some ⟨g, 0, none⟩) us.length d, .int .i64 x12, .int .i64 x2]) (by simp [results, Try.results35, go_sem, F]) rfl ⟨(some ⟨g, 0, none⟩), d, us.set 0 y0, _, _, by rw [List.length_set], by rw [List.length_set]; omega, all_set HU.out HY.out, Hp.intoQ (by repeat (first | (with_reducible exact H14) | (with_reducible apply Hp.alloc) | (with_reducible apply Hp.set) | (with_reducible apply Hp.drew) | (with_reducible apply Hp.drewN) | (with_reducible apply Hp.bytesW) | (with_reducible exact Upd.here) | (with_reducible exact Upd.hereR) | (with_reducible apply Upd.there) | (with_reducible apply Sz.alloc) | (with_reducible apply Sz.set) | (with_reducible apply Sz.drew) | (with_reducible apply Sz.drewN) | (with_reducible apply Sz.bytesW) | (with_reducible assumption) | (with_reducible exact Sz.base _))) fun H9 => ?_⟩
          rw [show (0 : Nat) = 0 * 2 + 0 from rfl, flat_setQ encUser_len us 0 0 _ y0 (by omega) (by omega) HE.out] at H9
          unfold rUser
          rw [List.length_set]
          exact (by refine Hp.sel (by repeat (first | (with_reducible exact H9) | (with_reducible apply Hp.alloc) | (with_reducible apply Hp.set) | (with_reducible apply Hp.drew) | (with_reducible apply Hp.drewN) | (with_reducible apply Hp.bytesW) | (with_reducible exact Upd.here) | (with_reducible exact Upd.hereR) | (with_reducible apply Upd.there) | (with_reducible apply Sz.alloc) | (with_reducible apply Sz.set) | (with_reducible apply Sz.drew) | (with_reducible apply Sz.drewN) | (with_reducible apply Sz.bytesW) | (with_reducible assumption) | (with_reducible exact Sz.base _))) ?_; (try simp only [List.set_cons_zero, List.set_cons_succ]); exact (by repeat (first | (with_reducible exact Sel.nil) | (with_reducible apply Sel.cons) | (with_reducible exact Del.here) | (with_reducible apply Del.there))))
        · have hm2i : ¬ (1 : Int) < (m : Int) := by omega
          have hm2b : decide ((1 : Int) < (m : Int)) = false := decide_eq_false hm2i
          have H := H14; clear H14
          go_wp2_with fail
          refine bodyPost_ret (v := .agg #[.slice A1 us.length d, .int .i64 x12, .int .i64 x2]) (by simp [results, Try.results35, go_sem, F]) rfl ⟨A1, d, us, _, _, rfl, (by omega), HU.out, (by refine Hp.sel (by repeat (first | (with_reducible exact H) | (with_reducible apply Hp.alloc) | (with_reducible apply Hp.set) | (with_reducible apply Hp.drew) | (with_reducible apply Hp.drewN) | (with_reducible apply Hp.bytesW) | (with_reducible exact Upd.here) | (with_reducible exact Upd.hereR) | (with_reducible apply Upd.there) | (with_reducible apply Sz.alloc) | (with_reducible apply Sz.set) | (with_reducible apply Sz.drew) | (with_reducible apply Sz.drewN) | (with_reducible apply Sz.bytesW) | (with_reducible assumption) | (with_reducible exact Sz.base _))) ?_; (try simp only [List.set_cons_zero, List.set_cons_succ]); exact (by repeat (first | (with_reducible exact Sel.nil) | (with_reducible apply Sel.cons) | (with_reducible exact Del.here) | (with_reducible apply Del.there))))⟩
      · clear H13 hx14
        have hl1 : us.length + 1 ≤ maxLen := by unfold maxLen; omega
        have H := H14; clear H14
        go_wp2_with (first | (at_builtin; refine wpList_append_lies _ (by rfl) _ _ 27 (by rfl) w.heap.size 53 i0 _ 2 _ Try.underlying27 hi0 hz0 hz1 hz2 (by rfl) (by decide) (.slice A1 (us.length) d) (us.length) _ (by rfl) (Hp.rowM (by repeat (first | (with_reducible exact H) | (with_reducible apply Hp.alloc) | (with_reducible apply Hp.set) | (with_reducible apply Hp.drew) | (with_reducible apply Hp.drewN) | (with_reducible apply Hp.bytesW) | (with_reducible exact Upd.here) | (with_reducible exact Upd.hereR) | (with_reducible apply Upd.there) | (with_reducible apply Sz.alloc) | (with_reducible apply Sz.set) | (with_reducible apply Sz.drew) | (with_reducible apply Sz.drewN) | (with_reducible apply Sz.bytesW) | (with_reducible assumption) | (with_reducible exact Sz.base _))) (by repeat (first | (with_reducible exact List.mem_cons_self) | (with_reducible apply List.mem_cons_of_mem)))) ⟨w14.heap.size, 0, none⟩ 1 1 (encUser ⟨⟨#[90]⟩, ⟨#[]⟩⟩) (by rfl) (by rfl) (Hp.news (by repeat (first | (with_reducible exact H) | (with_reducible apply Hp.alloc) | (with_reducible apply Hp.set) | (with_reducible apply Hp.drew) | (with_reducible apply Hp.drewN) | (with_reducible apply Hp.bytesW) | (with_reducible exact Upd.here) | (with_reducible exact Upd.hereR) | (with_reducible apply Upd.there) | (with_reducible apply Sz.alloc) | (with_reducible apply Sz.set) | (with_reducible apply Sz.drew) | (with_reducible apply Sz.drewN) | (with_reducible apply Sz.bytesW) | (with_reducible assumption) | (with_reducible exact Sz.base _))) 0 (by rfl)) (oneUser ⟨⟨#[90]⟩, ⟨#[]⟩⟩) (by decide) hl1 (by omega) (Hp.b (by repeat (first | (with_reducible exact H) | (with_reducible apply Hp.alloc) | (with_reducible apply Hp.set) | (with_reducible apply Hp.drew) | (with_reducible apply Hp.drewN) | (with_reducible apply Hp.bytesW) | (with_reducible exact Upd.here) | (with_reducible exact Upd.hereR) | (with_reducible apply Upd.there) | (with_reducible apply Sz.alloc) | (with_reducible apply Sz.set) | (with_reducible apply Sz.drew) | (with_reducible apply Sz.drewN) | (with_reducible apply Sz.bytesW) | (with_reducible assumption) | (with_reducible exact Sz.base _)))).size _ rfl ?_; intro g cap wa hown hgrow hat hlt1; have H5 := Hp.appM (by repeat (first | (with_reducible exact H) | (with_reducible apply Hp.alloc) | (with_reducible apply Hp.set) | (with_reducible apply Hp.drew) | (with_reducible apply Hp.drewN) | (with_reducible apply Hp.bytesW) | (with_reducible exact Upd.here) | (with_reducible exact Upd.hereR) | (with_reducible apply Upd.there) | (with_reducible apply Sz.alloc) | (with_reducible apply Sz.set) | (with_reducible apply Sz.drew) | (with_reducible apply Sz.drewN) | (with_reducible apply Sz.bytesW) | (with_reducible assumption) | (with_reducible exact Sz.base _))) (by repeat (first | (with_reducible exact Rep.here) | (with_reducible apply Rep.there))) hown hgrow hat rfl hlt1; (try simp only [List.set_cons_zero, List.set_cons_succ, List.cons_append, List.nil_append] at H5); have FA := H5.facts; simp only [Facts, NeF, box, row, reg, cellsF, rUser, rJob, ne_eq, true_and, and_true, Nat.reduceAdd, Nat.zero_add] at FA))
        have H6 : Hp w _ _ := (by repeat (first | (with_reducible exact H5) | (with_reducible apply Hp.alloc) | (with_reducible apply Hp.set) | (with_reducible apply Hp.drew) | (with_reducible apply Hp.drewN) | (with_reducible apply Hp.bytesW) | (with_reducible exact Upd.here) | (with_reducible exact Upd.hereR) | (with_reducible apply Upd.there) | (with_reducible apply Sz.alloc) | (with_reducible apply Sz.set) | (with_reducible apply Sz.drew) | (with_reducible apply Sz.drewN) | (with_reducible apply Sz.bytesW) | (with_reducible assumption) | (with_reducible exact Sz.base _)))
        (try simp only [List.set_cons_zero, List.set_cons_succ, List.cons_append, List.nil_append] at H6)
        clear F
        have F := H6.facts; simp only [Facts, NeF, box, row, reg, cellsF, rUser, rJob, ne_eq, true_and, and_true, Nat.reduceAdd, Nat.zero_add] at F
        refine bodyPost_ret (v := .agg #[.slice (some ⟨g, 0, none⟩) (us.length + 1) cap, .int .i64 x12, .int .i64 x2]) (by simp [results, Try.results35, go_sem, F]) rfl ⟨(some ⟨g, 0, none⟩), cap, us ++ [⟨⟨#[90]⟩, ⟨#[]⟩⟩], _, _, by rw [List.length_append]; rfl, by rw [List.length_append]; show us.length + 1 ≤ 121; omega, all_snoc HU.out ⟨by show 1 ≤ 20; decide, by unfold maxLen; show 0 ≤ _; exact Nat.zero_le _⟩, Hp.intoQ (by repeat (first | (with_reducible exact H6) | (with_reducible apply Hp.alloc) | (with_reducible apply Hp.set) | (with_reducible apply Hp.drew) | (with_reducible apply Hp.drewN) | (with_reducible apply Hp.bytesW) | (with_reducible exact Upd.here) | (with_reducible exact Upd.hereR) | (with_reducible apply Upd.there) | (with_reducible apply Sz.alloc) | (with_reducible apply Sz.set) | (with_reducible apply Sz.drew) | (with_reducible apply Sz.drewN) | (with_reducible apply Sz.bytesW) | (with_reducible assumption) | (with_reducible exact Sz.base _))) fun H9 => ?_⟩
        rw [rUser_snoc] at H9
        exact (by refine Hp.sel (by repeat (first | (with_reducible exact H9) | (with_reducible apply Hp.alloc) | (with_reducible apply Hp.set) | (with_reducible apply Hp.drew) | (with_reducible apply Hp.drewN) | (with_reducible apply Hp.bytesW) | (with_reducible exact Upd.here) | (with_reducible exact Upd.hereR) | (with_reducible apply Upd.there) | (with_reducible apply Sz.alloc) | (with_reducible apply Sz.set) | (with_reducible apply Sz.drew) | (with_reducible apply Sz.drewN) | (with_reducible apply Sz.bytesW) | (with_reducible assumption) | (with_reducible exact Sz.base _))) ?_; (try simp only [List.set_cons_zero, List.set_cons_succ]); exact (by repeat (first | (with_reducible exact Sel.nil) | (with_reducible apply Sel.cons) | (with_reducible exact Del.here) | (with_reducible apply Del.there))))
end Go.Proofs.Ytnhdpcmnnjgdkaa

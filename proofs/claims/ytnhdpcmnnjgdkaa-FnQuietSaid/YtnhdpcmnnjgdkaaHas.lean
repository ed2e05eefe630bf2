/- HasUser: the reference's and the program's, on one plain function. No condition. -/
import Derived.Test.YtnhdpcmnnjgdkaaRise
import Derived.Test.YtnhdpcmnnjgdkaaLwHasUser
set_option linter.unusedVariables false
set_option linter.unusedSimpArgs false
namespace Go.Proofs.Ytnhdpcmnnjgdkaa
open Go.RowKit

/-- The place of the first user with a name; -1 where there is none. -/
def atU : List User → ByteArray → Nat → Int
  | [], _, _ => -1
  | u :: us, s, k => if eqB u.name s then k else atU us s (k + 1)

theorem atU_skip {us : List User} {s : ByteArray} : ∀ {k j : Nat}, k < us.length → eqB (us[k]?.map (·.name) |>.getD ByteArray.empty) s = false → atU (us.drop k) s j = atU (us.drop (k + 1)) s (j + 1) := by
  intro k j hk h
  rw [List.drop_eq_getElem_cons hk, atU]
  rw [List.getElem?_eq_getElem hk] at h
  simp at h
  rw [h]; simp
theorem atU_hit {us : List User} {s : ByteArray} {k j : Nat} (hk : k < us.length) (h : eqB us[k].name s = true) : atU (us.drop k) s j = j := by
  rw [List.drop_eq_getElem_cons hk, atU, h]; simp

def hasU (us : List User) (s p : ByteArray) : Bool := us.any fun u => eqB u.name s && eqB u.pass p
def hasB (us : List User) (fail made : Int) (s p : ByteArray) : Bool := farOk us fail made && hasU us s p
theorem atU_spec (us : List User) (s : ByteArray) : ∀ k : Nat, (atU us s k = -1 ∧ ∀ u ∈ us, eqB u.name s = false) ∨ ∃ i, ∃ h : i < us.length, atU us s k = ((k + i : Nat) : Int) ∧ eqB us[i].name s = true := by
  induction us with
  | nil => intro k; exact .inl ⟨rfl, fun _ h => by cases h⟩
  | cons u us ih =>
    intro k
    rw [atU]
    by_cases h : eqB u.name s = true
    · exact .inr ⟨0, by simp, by rw [if_pos h]; simp, h⟩
    · rw [if_neg h]
      rcases ih (k + 1) with ⟨h1, h2⟩ | ⟨i, hi, h1, h2⟩
      · exact .inl ⟨h1, fun x hx => (List.mem_cons.1 hx).elim (fun e => by rw [e]; exact Bool.eq_false_iff.2 h) (fun hx => h2 x hx)⟩
      · exact .inr ⟨i + 1, by simp; omega, by rw [h1]; congr 1; omega, by simpa using h2⟩
theorem hasU_none {us : List User} {s p : ByteArray} (h : ∀ u ∈ us, eqB u.name s = false) : hasU us s p = false := by
  rw [hasU, List.any_eq_false]
  intro u hu
  rw [h u hu]; simp
theorem hasU_at {us : List User} {s p : ByteArray} (hr : Rises (us.map (·.name))) {i : Nat} (hi : i < us.length) (h : eqB us[i].name s = true) : hasU us s p = eqB us[i].pass p := by
  have hs := eqB_iff.1 h
  rw [hasU, Bool.eq_iff_iff, List.any_eq_true]
  constructor
  · rintro ⟨u, hu, hx⟩
    obtain ⟨j, hj, rfl⟩ := List.getElem_of_mem hu
    simp only [Bool.and_eq_true] at hx
    have := hr.inj (i := j) (j := i) (by simpa using hj) (by simpa using hi) (by simp only [List.getElem_map]; rw [eqB_iff.1 hx.1, hs])
    subst this
    exact hx.2
  · intro hx
    exact ⟨us[i], List.getElem_mem hi, by rw [h, hx]; rfl⟩

theorem Try.eqUserV (a b c d : ByteArray) (w : World) : (binOp .eql 53 (.agg #[.string a, .string b]) (.agg #[.string c, .string d])).run Try.prog w = .ok (.bool (eqB a c && eqB b d)) w := by
  have u3 := Try.underlying9
  have a3 := Try.isAgg9
  have z3 := Try.sizeOf9
  have hS : Try.prog.underlying 53 = some (.struct (Try.prog.fieldsOf 53)) := by kernel_rfl
  have hp : Try.prog.stoodInHeld 53 = false := by kernel_rfl
  rw [run_eql_struct, show (10000 : Nat) = 9999 + 1 from rfl, run_equalIn_agg w 9999 53 _ _ hS hp]
  simp only [Program.fieldsOf, Try.underlying53, eqB]
  go_simp
  cases h1 : (a.toList == c.toList) <;> cases h2 : (b.toList == d.toList) <;> simp_all

/-- The first place of a user. -/
def ixU : List User → User → Nat → Int
  | [], _, _ => -1
  | u :: us, x, k => if eqB x.name u.name && eqB x.pass u.pass then k else ixU us x (k + 1)
theorem ixU_skip {us : List User} {x : User} {k j : Nat} (hk : k < us.length) (h : (eqB x.name us[k].name && eqB x.pass us[k].pass) = false) : ixU (us.drop k) x j = ixU (us.drop (k + 1)) x (j + 1) := by
  rw [List.drop_eq_getElem_cons hk, ixU, h]; simp
theorem ixU_hit {us : List User} {x : User} {k j : Nat} (hk : k < us.length) (h : (eqB x.name us[k].name && eqB x.pass us[k].pass) = true) : ixU (us.drop k) x j = j := by
  rw [List.drop_eq_getElem_cons hk, ixU, h]; simp
theorem eqB_comm (a b : ByteArray) : eqB a b = eqB b a := by rw [Bool.eq_iff_iff, eqB_iff, eqB_iff]; exact ⟨Eq.symm, Eq.symm⟩
theorem ixU_has (us : List User) (x : User) : ∀ k : Nat, (0 ≤ ixU us x k ↔ hasU us x.name x.pass = true) := by
  induction us with
  | nil => intro k; simp [ixU, hasU]
  | cons u us ih =>
    intro k
    rw [ixU, hasU, List.any_cons]
    rw [eqB_comm x.name, eqB_comm x.pass]
    cases h : eqB u.name x.name && eqB u.pass x.pass with
    | true => simp
    | false =>
      simp
      rw [ih (k + 1), hasU]; simp

set_option maxHeartbeats 1000000 in
theorem indexUser_any (A : Option Addr) (n c : Nat) (us : List User) (x : User) (w : World) (hr : Rd w w.heap.size 2 A n c (us.flatMap encUser)) (hn : us.length = n) :
    Calls Try.prog 48 #[.slice A n c, .agg #[.string x.name, .string x.pass]] w fun e w' => e = .returned (.int .i64 (ixU us x 0)) ∧ Below w.heap.size w w' := by
  have hc := hr.2.1
  have hm := hr.2.2.1
  unfold maxLen at hm
  go_enter Try.func48, Try.ntmps48
  go_wp2_with fail
  have hr1 := hr.alloc (.cells #[.string x.name, .string x.pass] 53)
  have hB1 := below_alloc w (.cells #[.string x.name, .string x.pass] 53)
  have hbx := Bx.new w 53 #[.string x.name, .string x.pass]
  generalize w.alloc (.cells #[.string x.name, .string x.pass] 53) = W at *
  go_loopw [8] (fun i wr => ∃ k : Nat, k ≤ n ∧ i = .int .i64 k ∧ Below W.heap.size W wr ∧ Hid (ixU us x 0 = ixU (us.drop k) x k)) (fun i _ => n - (intOf i).toNat)
  case atStart => exact ⟨0, Nat.zero_le _, rfl, Below.refl _ _, rfl⟩
  case round =>
    obtain ⟨k, hk, rfl, HB, HE⟩ := hrel
    have bx := hbx.grow' HB
    have b0 : wr.cell? ⟨w.heap.size, 0, none⟩ = some (.string x.name) := bx.cell 0
    have b1 : wr.cell? ⟨w.heap.size, 1, none⟩ = some (.string x.pass) := bx.cell 1
    by_cases hlt : k < n
    · obtain ⟨b, off, rfl, hb, hcell⟩ := (hr1.grow HB).elem encUser_len hn hlt
      have c0 := hcell 0 _ rfl
      have c1 := hcell 1 _ rfl
      simp only [Nat.add_zero] at c0
      have hk1 : (k : Int) < (n : Int) := by omega
      cases he : (eqB x.name us[k].name && eqB x.pass us[k].pass) with
      | true =>
        have HN : Hid (ixU us x 0 = k) := by show _ = _; rw [HE.out, ixU_hit (by omega) he]
        have hq := Try.eqUserV x.name x.pass us[k].name us[k].pass
        rw [he] at hq
        clear hcell he
        generalize us[k] = t at c0 c1 hq
        go_wp2_with fail
        go_quiet (fail)
        go_wp2
        go_ret
        exact ⟨by rw [HN.out]; rfl, hB1.trans ((below_drewN HB _).mono hB1.size)⟩
      | false =>
        have HN : Hid (ixU us x 0 = ixU (us.drop (k + 1)) x (k + 1)) := by show _ = _; rw [HE.out, ixU_skip (by omega) he]
        have hq := Try.eqUserV x.name x.pass us[k].name us[k].pass
        rw [he] at hq
        clear hcell he
        generalize us[k] = t at c0 c1 hq
        go_wp2_with fail
        go_quiet (fail)
        go_wp2
        go_roundw
        case rel => exact ⟨k + 1, by omega, by go_num, below_drewN HB _, HN⟩
        case measure => simp [intOf]; omega
    · have HN : Hid (ixU us x 0 = -1) := by
        show _ = _
        rw [HE.out, List.drop_eq_nil_of_le (by omega), ixU]
      go_wp2
      go_ret
      exact ⟨by rw [HN.out]; rfl, hB1.trans (HB.mono hB1.size)⟩

theorem containsUser_any (A : Option Addr) (n c : Nat) (us : List User) (x : User) (w : World) (hr : Rd w w.heap.size 2 A n c (us.flatMap encUser)) (hn : us.length = n) :
    Calls Try.prog 24 #[.slice A n c, .agg #[.string x.name, .string x.pass]] w fun e w' => e = .returned (.bool (hasU us x.name x.pass)) ∧ Below w.heap.size w w' := by
  have HH := ixU_has us x 0
  go_enter Try.func24, Try.ntmps24
  go_wp2_with fail
  refine (indexUser_any A n c us x _ (hr.alloc _) hn).mono ?_
  rintro e w1 ⟨rfl, hb1'⟩
  obtain ⟨hb1, hz1, -⟩ := step_alloc hb1'
  cases hh : hasU us x.name x.pass with
  | true =>
    rw [hh] at HH
    have h0 : decide (0 ≤ ixU us x 0) = true := by simpa using HH.2 rfl
    go_wp2_with fail
    go_ret
    exact ⟨by simp [hh], hb1⟩
  | false =>
    rw [hh] at HH
    have h0 : decide (0 ≤ ixU us x 0) = false := by simpa using mt HH.1 (by simp)
    go_wp2_with fail
    go_ret
    exact ⟨by simp [hh], hb1⟩

theorem implHasUser_any (A : Option Addr) (n c : Nat) (us : List User) (fail made : Int) (s p : ByteArray) (w : World) (hr : Rd w w.heap.size 2 A n c (us.flatMap encUser)) (hn : us.length = n) (hf : ∀ u ∈ us, UserFits u) :
    Calls Try.prog 9 #[.agg #[.slice A n c, .int .i64 fail, .int .i64 made], .string s, .string p] w fun e w' => e = .returned (.bool (hasB us fail made s p)) ∧ Below w.heap.size w w' := by
  go_enter Try.func9, Try.ntmps9
  go_wp2_with fail
  refine (isFar_any A n c us fail made _ (hr.alloc _) hn (fun u h => (hf u h).name)).mono ?_
  rintro e w1 ⟨rfl, hb1'⟩
  obtain ⟨hb1, hz1, hx1⟩ := step_alloc hb1'
  have bx : Bx w1 w.heap.size 29 #[.slice A n c, .int .i64 fail, .int .i64 made] := hx1
  clear hx1
  cases hok : farOk us fail made with
  | false =>
    go_wp2_with fail
    go_ret
    exact ⟨by rw [hasB, hok]; rfl, hb1⟩
  | true =>
    have HE : Hid (hasB us fail made s p = hasU us s p) := by show _ = _; rw [hasB, hok]; rfl
    have d0 : w1.cell? ⟨w.heap.size, 0, none⟩ = some (.slice A n c) := bx.cell 0
    go_wp2_with fail
    refine (containsUser_any A n c us ⟨s, p⟩ _ (hr.grow hb1) hn).mono ?_
    rintro e w2 ⟨rfl, hb2⟩
    go_wp2_with fail
    go_ret
    exact ⟨by rw [HE.out]; rfl, blift hb1 hb2 (by omega)⟩

end Go.Proofs.Ytnhdpcmnnjgdkaa

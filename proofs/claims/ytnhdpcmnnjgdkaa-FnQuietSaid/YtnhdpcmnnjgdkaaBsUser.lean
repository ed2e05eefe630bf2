/- slices.BinarySearchFunc at User, the target a string. No condition. -/
import Derived.Test.YtnhdpcmnnjgdkaaSlUser
import Derived.Deep.LoopGhost
import Derived.Lib.Hide
set_option linter.unusedVariables false
set_option linter.unusedSimpArgs false
namespace Go.Proofs.Ytnhdpcmnnjgdkaa
open Go.RowKit
set_option linter.unusedVariables false

/-- How many stand ahead of the target; whether the one there is it. -/
def bsAt {α : Type} (cf : α → Int) (us : List α) : Nat := us.countP (fun x => decide (cf x < 0))
def bsHit {α : Type} (cf : α → Int) (us : List α) : Bool := ((us[bsAt cf us]?).map (fun x => decide (cf x = 0))).getD false
theorem countP_edge {α : Type} (p : α → Bool) : ∀ (l : List α) (i : Nat), i ≤ l.length → (∀ t (h : t < l.length), t < i → p l[t] = true) → (∀ t (h : t < l.length), i ≤ t → p l[t] = false) → l.countP p = i
  | [], i, hi, _, _ => by simp at hi; simp [hi]
  | a :: r, 0, _, _, h2 => by
    rw [List.countP_eq_zero]
    intro x hx
    obtain ⟨t, ht, rfl⟩ := List.getElem_of_mem hx
    simp [h2 t ht (Nat.zero_le _)]
  | a :: r, i + 1, hi, h1, h2 => by
    have ha : p a = true := h1 0 (by simp) (Nat.succ_pos _)
    rw [List.countP_cons_of_pos ha, countP_edge p r i (by simpa using hi) (fun t h ht => h1 (t + 1) (by simpa using h) (by omega)) (fun t h h3 => h2 (t + 1) (by simpa using h) (by omega))]

/-- What is asked of a comparison: it answers, and leaves what was there. -/
def CmpUser (g : Nat) (cb : Array Value) (s : ByteArray) (cf : User → Int) (w : World) : Prop := ∀ (W : World) (x : User), Below w.heap.size w W → Calls Try.prog g (#[.agg #[.string x.name, .string x.pass], .string s] ++ cb) W fun e w' => e = .returned (.int .i64 (cf x)) ∧ Below W.heap.size W w'
def BsLo (cf : User → Int) (us : List User) (lo : Nat) : Prop := ∀ t (h : t < us.length), t < lo → cf us[t] < 0
def BsHi (cf : User → Int) (us : List User) (hi : Nat) : Prop := ∀ t (h : t < us.length), hi ≤ t → ¬ cf us[t] < 0
set_option maxHeartbeats 4000000 in
set_option maxRecDepth 100000 in
theorem bsUser_any (g : Nat) (cb : Array Value) (s : ByteArray) (cf : User → Int) (eg : ∀ args w, (callFunc g args).run Try.prog w = .ok (.enter g args) w) (A : Option Addr) (n c : Nat) (us : List User) (w : World) (hp : CmpUser g cb s cf w) (hr : Rd w w.heap.size 2 A n c (us.flatMap encUser)) (hn : us.length = n) (hb20 : n ≤ 1048576)
    (hmono : ∀ a b (hb : b < us.length) (hab : a ≤ b), cf us[b] < 0 → cf (us[a]'(by omega)) < 0) :
    Calls Try.prog 58 #[.slice A n c, .string s, .func (.func g) #[] cb] w fun e w' => e = .returned (.tuple #[.int .i64 (bsAt cf us : Nat), .bool (bsHit cf us)]) ∧ Below w.heap.size w w' := by
  have hc := hr.2.1
  have hm := hr.2.2.1
  unfold maxLen at hm
  have HP := Lib.hid hp; clear hp
  have HM : Hid (∀ a b (hb : b < us.length) (hab : a ≤ b), cf us[b] < 0 → cf (us[a]'(by omega)) < 0) := hmono
  clear hmono
  go_enter Try.func58, Try.ntmps58
  go_wp2_with fail
  go_loopg [9, 10] n (fun kx s9 s10 wr => ∃ lo hi : Nat, s9 = .int .i64 lo ∧ s10 = .int .i64 hi ∧ lo ≤ hi ∧ hi ≤ n ∧ hi - lo ≤ kx ∧ Below w.heap.size w wr ∧ Hid (BsLo cf us lo) ∧ Hid (BsHi cf us hi))
  case atStart => exact ⟨0, n, rfl, rfl, Nat.zero_le _, Nat.le_refl _, by omega, Below.refl _ _, fun t h ht => absurd ht (Nat.not_lt_zero _), fun t h ht => by omega⟩
  case round =>
    obtain ⟨lo, hi, rfl, rfl, hlh, hin, hg, HB, I1, I2⟩ := hrel
    have hz := HB.size
    by_cases hlt : lo < hi
    · have hmid : (lo + hi) / 2 < n := by omega
      obtain ⟨b, off, rfl, hb, hcell⟩ := hr.elem encUser_len hn hmid
      have c0 := HB.cell (p := ⟨b, off + (lo + hi) / 2 * 2 + 0, none⟩) hb |>.trans (hcell 0 _ rfl)
      have c1 := HB.cell (p := ⟨b, off + (lo + hi) / 2 * 2 + 1, none⟩) hb |>.trans (hcell 1 _ rfl)
      simp only [Nat.add_zero] at c0
      have hcall := HP.out wr (us[(lo + hi) / 2]'(by omega)) HB
      by_cases hyx : cf (us[(lo + hi) / 2]'(by omega)) < 0
      · have N1 : Hid (BsLo cf us ((lo + hi) / 2 + 1)) := fun t h ht => HM.out t ((lo + hi) / 2) (by omega) (by omega) hyx
        clear hcell
        generalize us[(lo + hi) / 2]'(by omega) = y at c0 c1 hcall hyx
        have HC := Lib.hid hcall; clear hcall
        go_wp2_with (go_at_fn g; refine HC.out.mono ?_; rintro e w1 ⟨rfl, hb1⟩)
        go_roundg (hi - ((lo + hi) / 2 + 1))
        case measure => omega
        case rel => exact ⟨(lo + hi) / 2 + 1, hi, by rw [show ((lo : Int) + (hi : Int)) / 2 + 1 = (((lo + hi) / 2 + 1 : Nat) : Int) by omega], rfl, by omega, hin, Nat.le_refl _, blift HB hb1 hz, N1, I2⟩
      · have N2 : Hid (BsHi cf us ((lo + hi) / 2)) := fun t h ht hlt0 => hyx (HM.out ((lo + hi) / 2) t h ht hlt0)
        clear hcell
        generalize us[(lo + hi) / 2]'(by omega) = y at c0 c1 hcall hyx
        have HC := Lib.hid hcall; clear hcall
        go_wp2_with (go_at_fn g; refine HC.out.mono ?_; rintro e w1 ⟨rfl, hb1⟩)
        go_roundg ((lo + hi) / 2 - lo)
        case measure => omega
        case rel => exact ⟨lo, (lo + hi) / 2, rfl, by rw [show ((lo : Int) + (hi : Int)) / 2 = (((lo + hi) / 2 : Nat) : Int) by omega], by omega, by omega, Nat.le_refl _, blift HB hb1 hz, I1, N2⟩
    · obtain rfl : hi = lo := by omega
      have EA : Hid (bsAt cf us = hi) := countP_edge _ us hi (by omega) (fun t h ht => decide_eq_true (I1.out t h ht)) (fun t h ht => decide_eq_false (I2.out t h ht))
      by_cases hlt2 : hi < n
      · obtain ⟨b, off, rfl, hb, hcell⟩ := hr.elem encUser_len hn hlt2
        have c0 := HB.cell (p := ⟨b, off + hi * 2 + 0, none⟩) hb |>.trans (hcell 0 _ rfl)
        have c1 := HB.cell (p := ⟨b, off + hi * 2 + 1, none⟩) hb |>.trans (hcell 1 _ rfl)
        simp only [Nat.add_zero] at c0
        have hcall := HP.out wr (us[hi]'(by omega)) HB
        have EH : Hid (bsHit cf us = decide (cf (us[hi]'(by omega)) = 0)) := by
          show _ = _
          rw [bsHit, EA.out, List.getElem?_eq_getElem (by omega : hi < us.length)]; rfl
        clear hcell
        generalize us[hi]'(by omega) = y at c0 c1 hcall EH
        have HC := Lib.hid hcall; clear hcall
        by_cases hyx : cf y = 0
        · go_wp2_with (go_at_fn g; refine HC.out.mono ?_; rintro e w1 ⟨rfl, hb1⟩)
          go_ret2
          exact ⟨by rw [EA.out, EH.out]; simp [hyx], blift HB hb1 hz⟩
        · go_wp2_with (go_at_fn g; refine HC.out.mono ?_; rintro e w1 ⟨rfl, hb1⟩)
          go_ret2
          exact ⟨by rw [EA.out, EH.out]; simp [hyx], blift HB hb1 hz⟩
      · have EH : Hid (bsHit cf us = false) := by
          show _ = _
          rw [bsHit, EA.out, List.getElem?_eq_none (by omega)]; rfl
        go_wp2
        go_ret2
        exact ⟨by rw [EA.out, EH.out]; simp, HB⟩
end Go.Proofs.Ytnhdpcmnnjgdkaa

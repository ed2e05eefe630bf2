/- Queues: drop (the reference's and the program's). No condition. -/
import Derived.Test.YtinenkjfdmajkaaQueueC
namespace Go.Proofs.Ytinenkjfdmajkaa
open Go.RowKit
set_option linter.unusedVariables false

def newJob (s : ByteArray) (x : Int) : Job := ⟨s, x, 0⟩
def dropJob (js : List Job) (s : ByteArray) (x : Int) : List Job × Bool :=
  if queueOk js then (if anyP (sameName s) js then (js, true) else if queueOk (js ++ [newJob s x]) then (js ++ [newJob s x], true) else (js, false)) else (js, false)

theorem fits_snoc {js : List Job} {s : ByteArray} {x : Int} (hf : ∀ u ∈ js, JobFits u) (hs : s.size ≤ maxLen) : ∀ u ∈ js ++ [newJob s x], JobFits u := by
  intro u hu
  rcases List.mem_append.1 hu with h | h
  · exact hf u h
  · rw [List.mem_singleton.1 h]; exact hs
theorem flat_snoc {α : Type} (enc : α → List Value) (us : List α) (u : α) : us.flatMap enc ++ enc u = (us ++ [u]).flatMap enc := by
  rw [List.flatMap_append]; congr 1; exact (List.append_nil _).symm

set_option maxHeartbeats 4000000 in
theorem cloneQueue_any (A : Option Addr) (n c : Nat) (js : List Job) (w : World) (hr : Rd w w.heap.size 3 A n c (js.flatMap encJob)) (hn : js.length = n) (hb20 : n ≤ 1048576) :
    Calls Try.prog 61 #[.agg #[.slice A n c]] w fun e w' => ∃ A' c', e = .returned (.agg #[.slice A' n c']) ∧ Own w' w.heap.size w'.heap.size 87 3 (.slice A' n c') n (js.flatMap encJob) ∧ Below w.heap.size w w' := by
  go_enter Try.func61, Try.ntmps61
  go_wp2_with fail
  refine (cloneJob_any A n c js _ ((hr.alloc _).alloc _) hn hb20).mono ?_
  rintro e w1 ⟨A1, c1, rfl, own1, hb1'⟩
  obtain ⟨hbt, -, hx1⟩ := step_alloc hb1'
  obtain ⟨hb1, hz1, hx0⟩ := step_alloc hbt
  simp only [World.size_alloc] at hx1 own1
  have bx1 : Bx w1 (w.heap.size + 1) 53 #[.slice none 0 0] := hx1
  have ce1 : w1.cell? ⟨w.heap.size + 1, 0, none⟩ = some (.slice none 0 0) := bx1.cell 0
  have cf1 := bx1.frozen 0
  have lt1 := bx1.lt
  have HO := Lib.hid own1; clear own1
  have HB := Lib.hid hb1; clear hb1 hbt hb1' hx0 hx1
  go_wp2_with fail
  refine bodyPost_ret (v := .agg #[.slice A1 n c1]) (by simp [results, Try.results61, go_sem, ce1]) rfl ⟨_, _, rfl, ?_, ?_⟩
  · exact (Own.set_far HO.out (by left; omega) _).mono (by omega) (by simp [World.setCell]) (Nat.le_refl _)
  · exact HB.out.setCell (by show w.heap.size ≤ w.heap.size + 1; omega) _

def DropQ (w : World) (rs : List Job) (rb : Bool) (e : Ending) (w' : World) : Prop := ∃ A' c' lo hi, e = .returned (.tuple #[.agg #[.slice A' rs.length c'], .bool rb]) ∧ Own w' lo hi 87 3 (.slice A' rs.length c') rs.length (rs.flatMap encJob) ∧ w.heap.size ≤ lo ∧ Below w.heap.size w w'

set_option maxHeartbeats 4000000 in
set_option maxRecDepth 10000 in
theorem specQueueDrop_any (A : Option Addr) (n c : Nat) (js : List Job) (s : ByteArray) (x : Int) (rs : List Job) (rb : Bool) (hd : dropJob js s x = (rs, rb)) (w : World) (hr : Rd w w.heap.size 3 A n c (js.flatMap encJob)) (hn : js.length = n) (hf : ∀ u ∈ js, JobFits u) (hs : s.size ≤ maxLen) (hb20 : n ≤ 1048576) :
    Calls Try.prog 31 #[.agg #[.slice A n c], .string s, .int .i64 x] w fun e w' => DropQ w rs rb e w' := by
  obtain ⟨i0, hi, hz0, hz1, hz2⟩ := info_parts Try.infoJob
  have hc := hr.2.1
  have hm := hr.2.2.1
  unfold maxLen at hm
  have HD := Lib.hid hd; clear hd
  go_enter Try.func31, Try.ntmps31
  go_wp2_with fail
  refine (l11CopyQueue_any A n c js _ ((hr.alloc _).alloc _) hn hb20).mono ?_
  rintro e w1 ⟨A1, c1, rfl, own1, hb1'⟩
  obtain ⟨hbt, -, hx1⟩ := step_alloc hb1'
  obtain ⟨hb1, hz1', hx0⟩ := step_alloc hbt
  simp only [World.size_alloc] at hx1 own1
  have bx0 : Bx w1 w.heap.size 53 #[.slice A n c] := hx0
  have bx1 : Bx w1 (w.heap.size + 1) 53 #[.slice none 0 0] := hx1
  have ce0 : w1.cell? ⟨w.heap.size, 0, none⟩ = some (.slice A n c) := bx0.cell 0
  have lt1 := bx1.lt
  clear hx0 hx1 hbt hb1'
  go_wp2_with fail
  clear ce0
  refine (specQueueOk_any A n c js _ ((hr.grow hb1).alloc _) hn hf).mono ?_
  rintro e w2 ⟨rfl, hb2'⟩
  obtain ⟨hb2, hz2', hx2⟩ := step_alloc hb2'
  have bx2 : Bx w2 w1.heap.size 53 #[.slice A1 n c1] := hx2
  clear hx2 hb2'
  replace bx0 := bx0.grow' hb2
  replace bx1 := bx1.grow' hb2
  replace own1 := own1.grow' hb2
  have HB := blift hb1 hb2 hb1.size
  clear hb2 hb1
  have ce0 : w2.cell? ⟨w.heap.size, 0, none⟩ = some (.slice A n c) := bx0.cell 0
  have ce1 : w2.cell? ⟨w.heap.size + 1, 0, none⟩ = some (.slice none 0 0) := bx1.cell 0
  have ce2 : w2.cell? ⟨w1.heap.size, 0, none⟩ = some (.slice A1 n c1) := bx2.cell 0
  have cf1 := bx1.frozen 0
  cases hq : queueOk js with
  | false =>
    have HD2 : Hid ((js, false) = (rs, rb)) := by have := HD.out; rwa [dropJob, hq, if_neg (by decide)] at this
    have HO := Lib.hid own1; clear own1
    have HBH := Lib.hid HB; clear HB
    go_wp2_with fail
    obtain ⟨rfl, rfl⟩ := Prod.mk.inj HD2.out
    subst hn
    exact bodyPost_ret (v := .tuple #[.agg #[.slice A1 js.length c1], .bool false]) (by simp [results, Try.results31, go_sem, ce1]) rfl ⟨A1, c1, _, _, rfl, Own.set_far HO.out (by left; omega) _, by omega, HBH.out.setCell (by show w.heap.size ≤ w.heap.size + 1; omega) _⟩
  | true =>
    go_wp2_with fail
    go_loop [9] (fun i => ∃ k : Nat, k ≤ n ∧ i = .int .i64 k ∧ Hid (anyP (sameName s) (js.take k) = false)) (fun i => n - (intOf i).toNat)
    case atStart => exact ⟨0, Nat.zero_le _, rfl, rfl⟩
    case round =>
      obtain ⟨k, hk, rfl, HA⟩ := hrel
      by_cases hlt : k < n
      · obtain ⟨b, off, rfl, hb, hcell⟩ := hr.elem encJob_len hn hlt
        have c0 := HB.cell (p := ⟨b, off + k * 3 + 0, none⟩) hb |>.trans (hcell 0 _ rfl)
        simp only [Nat.add_zero] at c0
        have hk1 : (k : Int) < (n : Int) := by omega
        have hk0 : (0 : Int) ≤ (k : Int) := by omega
        clear hcell
        cases hs2 : sameName s (js[k]'(by omega)) with
        | true =>
          have HD2 : Hid ((js, true) = (rs, rb)) := by
            have := HD.out
            rwa [dropJob, hq, if_pos rfl, show anyP (sameName s) js = true by have := anyP_yes (show k < js.length by omega) (show k < n by omega) hs2; rwa [List.take_of_length_le (by omega)] at this, if_pos rfl] at this
          have HO := Lib.hid own1; clear own1
          have HBH := Lib.hid HB; clear HB
          unfold sameName eqB at hs2
          generalize (js[k]'(by omega)).name = t at *
          go_wp2_with fail
          obtain ⟨rfl, rfl⟩ := Prod.mk.inj HD2.out
          subst hn
          exact bodyPost_ret (v := .tuple #[.agg #[.slice A1 js.length c1], .bool true]) (by simp [results, Try.results31, go_sem, ce1]) rfl ⟨A1, c1, _, _, rfl, Own.set_far HO.out (by left; omega) _, by omega, HBH.out.setCell (by show w.heap.size ≤ w.heap.size + 1; omega) _⟩
        | false =>
          have HA' : Hid (anyP (sameName s) (js.take (k + 1)) = false) := anyP_snoc (by omega) HA.out hs2
          unfold sameName eqB at hs2
          generalize (js[k]'(by omega)).name = t at *
          go_wp2_with fail
          go_round
          case rel => exact ⟨k + 1, by omega, by go_num, HA'⟩
          case measure => simp [intOf]; omega
      · obtain rfl : n = k := by omega
        have HA' : Hid (anyP (sameName s) js = false) := by have := HA.out; rwa [List.take_of_length_le (by omega)] at this
        clear HA
        have own1' := own1.1
        have hlen : n + 1 ≤ maxLen := by unfold maxLen; omega
        have hz2 := bx2.lt
        go_wp2_with (at_builtin; refine wpList_append_lies _ (by rfl) _ _ 51 (by rfl) (w.heap.size + 1 + 1) 87 i0 _ 3 _ Try.underlying51 hi hz0 hz1 (by assumption) (by rfl) (by decide) _ n _ (by rfl) (own_alloc own1') ⟨w2.heap.size, 0, none⟩ 1 1 (encJob (newJob s x)) (by rfl) (by rfl) (news_alloc _ rfl) (by intro u hu; simp [encJob, newJob] at hu; rcases hu with rfl | rfl | rfl <;> rfl) (by decide) hlen (by omega) (by simp; omega) _ rfl ?_; intro g cap w3 hown hgrow hat hlt1; have hb3 := below_app own1' (by omega) hgrow; have hy0 := bx0.grow hb3 (by omega); have hy1 := bx1.grow hb3 (by omega); have hc3 := chg_app (B := 0) own1 hgrow; have hy2 := bx2.chg hc3 (by omega); obtain ⟨own3, hB3⟩ := own_at_ hown (by omega) hlt1; have hne : g ≠ w1.heap.size := (by rcases hat with h | h; (have := (own1.lt g h).2; omega); (simp at h; omega)); have ce3 : w3.cell? ⟨w1.heap.size, 0, none⟩ = some (.slice A1 n c1) := hy2.cell 0; have cf3 := hy2.frozen 0)
        have lt3 := hy2.lt
        replace hB3 : w.heap.size + 2 ≤ g := hB3
        have HB3 := (HB.trans (hb3.mono (by omega))).setCell (p := ⟨w1.heap.size, 0, none⟩) (by show w.heap.size ≤ w1.heap.size; omega) (.slice (some ⟨g, 0, none⟩) (n + 1) cap)
        replace hy0 := hy0.far (b' := w1.heap.size) (i := 0) (by omega) (.slice (some ⟨g, 0, none⟩) (n + 1) cap)
        replace hy1 := hy1.far (b' := w1.heap.size) (i := 0) (by omega) (.slice (some ⟨g, 0, none⟩) (n + 1) cap)
        replace hy2 : Bx _ _ 53 #[.slice (some ⟨g, 0, none⟩) (n + 1) cap] := hy2.set (i := 0) (.slice (some ⟨g, 0, none⟩) (n + 1) cap)
        replace own3 := Own.set_far own3 (b := w1.heap.size) (o := 0) (by omega) (.slice (some ⟨g, 0, none⟩) (n + 1) cap)
        rw [flat_snoc] at own3
        clear hown hgrow hat own1' own1 hb3 hc3 bx0 bx1 bx2 ce0 ce1 ce2 cf1 HB ce3 cf3
        generalize w3.setCell ⟨w1.heap.size, 0, none⟩ (.slice (some ⟨g, 0, none⟩) (n + 1) cap) = wz at *
        refine (specQueueOk_any (some ⟨g, 0, none⟩) (n + 1) cap (js ++ [newJob s x]) _ own3.rd (by simp [hn]) (fits_snoc hf hs)).mono ?_
        rintro e w4 ⟨rfl, hb4⟩
        replace hy0 := hy0.grow' hb4
        replace hy1 := hy1.grow' hb4
        replace hy2 := hy2.grow' hb4
        replace own3 := own3.grow' hb4
        replace HB3 := blift HB3 hb4 HB3.size
        have ce0 : w4.cell? ⟨w.heap.size, 0, none⟩ = some (.slice A n c) := hy0.cell 0
        have ce1 : w4.cell? ⟨w.heap.size + 1, 0, none⟩ = some (.slice none 0 0) := hy1.cell 0
        have ce2 : w4.cell? ⟨w1.heap.size, 0, none⟩ = some (.slice (some ⟨g, 0, none⟩) (n + 1) cap) := hy2.cell 0
        have cf1 := hy1.frozen 0
        cases hq2 : queueOk (js ++ [newJob s x]) with
        | true =>
          have HD2 : Hid ((js ++ [newJob s x], true) = (rs, rb)) := by have := HD.out; rwa [dropJob, hq, if_pos rfl, HA'.out, if_neg (by decide), hq2, if_pos rfl] at this
          have HO := Lib.hid own3; clear own3
          have HBH := Lib.hid HB3; clear HB3
          go_wp2_with fail
          obtain ⟨rfl, rfl⟩ := Prod.mk.inj HD2.out
          have hl : (js ++ [newJob s x]).length = n + 1 := by simp [hn]
          refine bodyPost_ret (v := .tuple #[.agg #[.slice (some ⟨g, 0, none⟩) (n + 1) cap], .bool true]) (by simp [results, Try.results31, go_sem, ce1]) rfl ?_
          unfold DropQ
          rw [hl]
          exact ⟨_, cap, _, _, rfl, Own.set_far HO.out (by left; omega) _, by omega, HBH.out.setCell (by show w.heap.size ≤ w.heap.size + 1; omega) _⟩
        | false =>
          have HD2 : Hid ((js, false) = (rs, rb)) := by have := HD.out; rwa [dropJob, hq, if_pos rfl, HA'.out, if_neg (by decide), hq2, if_neg (by decide)] at this
          clear own3
          go_wp2_with fail
          refine (l11CopyQueue_any A n c js _ (hr.grow HB3) hn hb20).mono ?_
          rintro e w5 ⟨A5, c5, rfl, own5, hb5⟩
          replace hy1 := hy1.grow' hb5
          have hz5 := hy1.lt
          replace HB3 := blift HB3 hb5 HB3.size
          have ce1' : w5.cell? ⟨w.heap.size + 1, 0, none⟩ = some (.slice none 0 0) := hy1.cell 0
          have cf1' := hy1.frozen 0
          have hz4 := hy2.lt
          clear ce0 ce1 ce2 cf1
          have HO := Lib.hid own5; clear own5
          have HBH := Lib.hid HB3; clear HB3
          go_wp2_with fail
          obtain ⟨rfl, rfl⟩ := Prod.mk.inj HD2.out
          subst hn
          exact bodyPost_ret (v := .tuple #[.agg #[.slice A5 js.length c5], .bool false]) (by simp [results, Try.results31, go_sem, ce1']) rfl ⟨A5, c5, _, _, rfl, Own.set_far HO.out (by left; omega) _, by omega, HBH.out.setCell (by show w.heap.size ≤ w.heap.size + 1; omega) _⟩
end Go.Proofs.Ytinenkjfdmajkaa

/- Systems and queues: what the copies and drops leave, as footprints. No condition. -/
import Derived.Test.YtnhdpcmnnjgdkaaRunP
import Derived.Test.YtnhdpcmnnjgdkaaM1
import Derived.Test.YtnhdpcmnnjgdkaaEnUser
import Derived.Test.YtnhdpcmnnjgdkaaEnJob
import Derived.Test.YtnhdpcmnnjgdkaaEnStr
import Derived.Test.YtnhdpcmnnjgdkaaFarE
import Derived.Test.YtnhdpcmnnjgdkaaQueueD
set_option linter.unusedVariables false
set_option linter.unusedSimpArgs false
namespace Go.Proofs.Ytnhdpcmnnjgdkaa
open Go.RowKit
set_option linter.unusedVariables false

theorem l11Copy_hp (A : Option Addr) (n c : Nat) (us : List User) (fail made : Int) (w : World) (hr : Rd w w.heap.size 2 A n c (us.flatMap encUser)) (hn : us.length = n) (hb20 : n ≤ 1048576) :
    Calls Try.prog 39 #[.agg #[.slice A n c, .int .i64 fail, .int .i64 made]] w fun e w' => ∃ A' c', e = .returned (.agg #[.slice A' us.length c', .int .i64 fail, .int .i64 made]) ∧ Hp w w' [rUser A' c' us] := by
  subst hn
  exact (l11Copy_any A us.length c us fail made w hr rfl hb20).mono fun e w' ⟨A', c', he, h, hb⟩ => ⟨A', c', he, Hp.ofOwn hb h (Nat.le_refl _)⟩
theorem cloneFar_hp (A : Option Addr) (n c : Nat) (us : List User) (fail made : Int) (w : World) (hr : Rd w w.heap.size 2 A n c (us.flatMap encUser)) (hn : us.length = n) (hb20 : n ≤ 1048576) :
    Calls Try.prog 23 #[.agg #[.slice A n c, .int .i64 fail, .int .i64 made]] w fun e w' => ∃ A' c', e = .returned (.agg #[.slice A' us.length c', .int .i64 fail, .int .i64 made]) ∧ Hp w w' [rUser A' c' us] := by
  subst hn
  exact (cloneFar_any A us.length c us fail made w hr rfl hb20).mono fun e w' ⟨A', c', he, h, hb⟩ => ⟨A', c', he, Hp.ofOwn hb h (Nat.le_refl _)⟩
theorem l11CopyQueue_hp (A : Option Addr) (n c : Nat) (js : List Job) (w : World) (hr : Rd w w.heap.size 3 A n c (js.flatMap encJob)) (hn : js.length = n) (hb20 : n ≤ 1048576) :
    Calls Try.prog 40 #[.agg #[.slice A n c]] w fun e w' => ∃ A' c', e = .returned (.agg #[.slice A' js.length c']) ∧ Hp w w' [rJob A' c' js] := by
  subst hn
  exact (l11CopyQueue_any A js.length c js w hr rfl hb20).mono fun e w' ⟨A', c', he, h, hb⟩ => ⟨A', c', he, Hp.ofOwn hb h (Nat.le_refl _)⟩
theorem cloneQueue_hp (A : Option Addr) (n c : Nat) (js : List Job) (w : World) (hr : Rd w w.heap.size 3 A n c (js.flatMap encJob)) (hn : js.length = n) (hb20 : n ≤ 1048576) :
    Calls Try.prog 22 #[.agg #[.slice A n c]] w fun e w' => ∃ A' c', e = .returned (.agg #[.slice A' js.length c']) ∧ Hp w w' [rJob A' c' js] := by
  subst hn
  exact (cloneQueue_any A js.length c js w hr rfl hb20).mono fun e w' ⟨A', c', he, h, hb⟩ => ⟨A', c', he, Hp.ofOwn hb h (Nat.le_refl _)⟩
theorem specDropUser_hp (A : Option Addr) (n c : Nat) (us : List User) (fail made : Int) (s : ByteArray) (rs : List User) (rf rc : Int) (hd : dropU us fail made s = ⟨rs, rf, rc⟩) (w : World) (hr : Rd w w.heap.size 2 A n c (us.flatMap encUser)) (hn : us.length = n) (hf : ∀ u ∈ us, UserFits u) (hb20 : n ≤ 1048576) (hfail : -9223372036854775808 ≤ fail ∧ fail ≤ 9223372036854775807) :
    Calls Try.prog 41 #[.agg #[.slice A n c, .int .i64 fail, .int .i64 made], .string s] w fun e w' => ∃ A' c', e = .returned (.tuple #[.agg #[.slice A' rs.length c', .int .i64 rf, .int .i64 made], .int .i64 rc]) ∧ Hp w w' [rUser A' c' rs] :=
  (specDropUser_any A n c us fail made s rs rf rc hd w hr hn hf hb20 hfail).mono fun e w' ⟨A', c', lo, hi, he, h, hl, hb⟩ => ⟨A', c', he, Hp.ofOwn hb h hl⟩
theorem dropUser_hp (A : Option Addr) (n c : Nat) (us : List User) (fail made : Int) (s : ByteArray) (rs : List User) (rf rc : Int) (hq : farOk us fail made = true) (hd : dropU us fail made s = ⟨rs, rf, rc⟩) (w : World) (hr : Rd w w.heap.size 2 A n c (us.flatMap encUser)) (hn : us.length = n) (hf : ∀ u ∈ us, UserFits u) (hb20 : n ≤ 1048576) (hfail : -9223372036854775808 ≤ fail ∧ fail ≤ 9223372036854775807) :
    Calls Try.prog 45 #[.agg #[.slice A n c, .int .i64 fail, .int .i64 made], .string s] w fun e w' => ∃ A' c', e = .returned (.tuple #[.agg #[.slice A' rs.length c', .int .i64 rf, .int .i64 made], .int .i64 rc]) ∧ Hp w w' [rUser A' c' rs] :=
  (dropUser_any A n c us fail made s rs rf rc hq hd w hr hn hf hb20 hfail).mono fun e w' ⟨A', c', lo, hi, he, h, hl, hb⟩ => ⟨A', c', he, Hp.ofOwn hb h hl⟩

/-- A run of whatever queue and system. -/
def runF (js : List Job) (us : List User) (fail made now : Int) : RQ := if queueOk js = true ∧ farOk us fail made = true ∧ inR now 0 1000000000 = true then runQ js us fail now else ⟨js, us, fail, [], []⟩
def RunH (w : World) (r : RQ) (made : Int) (e : Ending) (w' : World) : Prop := ∃ AO AF AG AV cO cF cG cV,
  e = .returned (.tuple #[.agg #[.slice AO r.out.length cO], .agg #[.slice AF r.us.length cF, .int .i64 r.fail, .int .i64 made], .slice AG r.gone.length cG, .slice AV r.given.length cV]) ∧
  Hp w w' [rJob AO cO r.out, rUser AF cF r.us, rStr AG cG r.gone, rStr AV cV r.given]
end Go.Proofs.Ytnhdpcmnnjgdkaa

/- Small facts on append within a loop: what it leaves as it was. No condition. -/
import Derived.Test.YtklmcbabpncfmaaDoorMem
import Derived.Deep.AppendLies
namespace Go.Proofs.YtklmcbabpncfmaaDoor
open Go.RowKit
set_option linter.unusedVariables false
theorem below_app {w w1 : World} {B n k : Nat} {e : TypeId} {v : Value} {xs : List Value} {o : Obj} (ho : w.ownsRow B e k v n xs) (hB : B ≤ w.heap.size) (hg : (w.alloc o).grownBy w1 v.ownBlock) : Below B w w1 :=
  ((Below.refl _ w).alloc hB _).grown hg (by simp; omega) (fun k hk => (ho.lt k hk).1)
theorem own_alloc {w : World} {B n k : Nat} {e : TypeId} {v : Value} {xs : List Value} {o : Obj} (ho : w.ownsRow B e k v n xs) : (w.alloc o).ownsRow B e k v n xs := own_below ho (below_alloc w o) (fun g hg => (ho.lt g hg).2)
theorem news_alloc {w : World} {cs : Array Value} {t : TypeId} (xs : List Value) (h : cs.toList = xs) : ∀ (j : Nat) (u : Value), xs[j]? = some u → (w.alloc (.cells cs t)).cell? ((⟨w.heap.size, 0, none⟩ : Addr).add j) = some u := by
  intro j u hu
  rw [Addr.add_lit, Nat.zero_add]
  rw [cell_of_row _ _ j cs t (0, 0) (heap_alloc_new w _)]
  subst h
  simpa using hu
theorem Bx.new' (w : World) (t : TypeId) (cs : Array Value) {b : Nat} (h : w.heap.size = b) : Bx (w.alloc (.cells cs t)) b t cs := by subst h; exact Bx.new w t cs
theorem own_at_ {w : World} {B k g n m cap : Nat} {e : TypeId} {xs : List Value} (h : w.ownsRow B e k (.slice (some ⟨g, 0, none⟩) m cap) n xs) (hn : 0 < n) (hlt : g < w.heap.size) : Own w g (g + 1) e k (.slice (some ⟨g, 0, none⟩) m cap) n xs ∧ B ≤ g := by
  rcases h.2 with ⟨_, h0⟩ | ⟨g', cap', cur, hv, hb, rest⟩
  · omega
  · have hg : g' = g := by injection hv with h1; injection h1 with h2; injection h2 with h3; exact h3.symm
    subst hg
    exact ⟨⟨⟨h.1, .inr ⟨g', cap', cur, hv, Nat.le_refl _, rest⟩⟩, fun g2 hg2 => by simp [Value.ownBlock] at hg2; omega, hlt⟩, hb⟩
theorem chg_app {w w1 : World} {B n k lo hi : Nat} {e : TypeId} {v : Value} {xs : List Value} {o : Obj} (ho : Own w lo hi e k v n xs) (hg : (w.alloc o).grownBy w1 v.ownBlock) : Chg w w1 lo hi :=
  (Chg.of_grown hg (fun g' hg' => ho.lt g' hg')).of_alloc
end Go.Proofs.YtklmcbabpncfmaaDoor

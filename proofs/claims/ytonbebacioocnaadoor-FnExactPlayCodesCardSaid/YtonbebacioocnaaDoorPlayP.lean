/- Codes played one after the other: plain. No condition. -/
import Derived.Test.YtonbebacioocnaaDoorChk
namespace Go.Proofs.YtonbebacioocnaaDoor
open Go.RowKit
structure PlayR where
  k : Int
  c : Int
  f : Int
  u : Int
  told : List Int
def playStep (win : Int) (r : PlayR) (s : ByteArray) : PlayR :=
  ⟨(checkV r.k r.c r.f r.u s win r.told.length).k, (checkV r.k r.c r.f r.u s win r.told.length).c, (checkV r.k r.c r.f r.u s win r.told.length).f, (checkV r.k r.c r.f r.u s win r.told.length).u, r.told ++ [(checkV r.k r.c r.f r.u s win r.told.length).what]⟩
def playR (win : Int) (r : PlayR) (cs : List ByteArray) : PlayR := cs.foldl (playStep win) r
theorem playR_take {win : Int} {r : PlayR} {cs : List ByteArray} {x : Nat} (hx : x < cs.length) : playR win r (cs.take (x + 1)) = playStep win (playR win r (cs.take x)) cs[x] := by
  rw [playR, List.take_succ_eq_append_getElem hx, List.foldl_append]; rfl
def playCodes (k c f u win : Int) (cs : List ByteArray) : PlayR := if cs.length ≤ 200 then playR win ⟨k, c, f, u, []⟩ cs else ⟨k, c, f, u, []⟩
theorem playR_len (win : Int) : ∀ (cs : List ByteArray) (r : PlayR), (playR win r cs).told.length = r.told.length + cs.length
  | [], r => rfl
  | s :: cs, r => by
    show (playR win (playStep win r s) cs).told.length = _
    rw [playR_len win cs]
    simp [playStep]; omega
theorem playCodes_len (k c f u win : Int) (cs : List ByteArray) : (playCodes k c f u win cs).told.length ≤ 1048576 := by
  unfold playCodes
  split
  · rw [playR_len]; simp; omega
  · simp
end Go.Proofs.YtonbebacioocnaaDoor

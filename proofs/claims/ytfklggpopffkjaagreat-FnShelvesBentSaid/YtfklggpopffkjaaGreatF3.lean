/- What the functions come to. -/
import Derived.Test.YtfklggpopffkjaaGreatF2
set_option linter.unusedVariables false
set_option linter.unusedSimpArgs false
namespace Go.Proofs.YtfklggpopffkjaaGreatK
open Go.RowKit
/-- Sizes. -/
theorem szT_pr (a b : T) (x : (T.pr a b).den) : szT (.pr a b) x = szT a x.1 + szT b x.2 := rfl
theorem szT_str (s : List UInt8) : szT .str s = s.length := rfl
theorem szT_bool (s : Bool) : szT .bool s = 0 := rfl
theorem szT_int (k : IntKind) (s : Int) : szT (.int k) s = 0 := rfl
theorem szG {t : T} {l : List t.den} {i : Nat} (h : i < l.length) : l.length + szT t l[i] ≤ szT (.sl t) l := by
  rw [szT_slE]
  have := szL_mem (List.getElem_mem h)
  omega
theorem szLen {t : T} {l : List t.den} : l.length ≤ szT (.sl t) l := by rw [szT_slE]; omega
theorem BndT_of : ∀ (t : T) (x : t.den), szT t x ≤ 9223372036854775807 → BndT t x
  | .int _, _, _ => trivial
  | .u8, _, _ => trivial
  | .bool, _, _ => trivial
  | .str, _, h => h
  | .sl t, l, h => by
    rw [szT_slE] at h
    exact ⟨by omega, fun x hx => BndT_of t x (by have := szL_mem hx; omega)⟩
  | .pr a b, x, h => by
    simp only [szT] at h
    exact ⟨BndT_of a x.1 (by omega), BndT_of b x.2 (by omega)⟩
  | .node, _, _ => trivial
end Go.Proofs.YtfklggpopffkjaaGreatK

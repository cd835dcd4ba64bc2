/- What the functions come to. -/
import Derived.Test.YtcjdocdinmbjhaaDoorF2
set_option linter.unusedVariables false
set_option linter.unusedSimpArgs false
namespace Go.Proofs.YtcjdocdinmbjhaaDoorK
open Go.RowKit
/-- Sizes. -/
theorem szT_pr (a b : T) (x : (T.pr a b).den) : szT (.pr a b) x = szT a x.1 + szT b x.2 := rfl
theorem szT_str (s : List UInt8) : szT .str s = s.length := rfl
theorem szT_bool (s : Bool) : szT .bool s = 0 := rfl
theorem szT_int (k : IntKind) (s : Int) : szT (.int k) s = 0 := rfl
theorem szG {t : T} {l : List t.den} {i : Nat} (h : i < l.length) : l.length + szT t l[i] ≤ szT (.sl t) l := by
  rw [szT_slE]
  have := szL_mem (List.getElem_mem h)
  omega
theorem szLen {t : T} {l : List t.den} : l.length ≤ szT (.sl t) l := by rw [szT_slE]; omega
end Go.Proofs.YtcjdocdinmbjhaaDoorK

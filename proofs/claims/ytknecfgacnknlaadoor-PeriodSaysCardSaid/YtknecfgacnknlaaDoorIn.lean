/- The helper 'in' of the law packages: low <= n <= high. -/
import Derived.Test.YtknecfgacnknlaaDoorBase
namespace Go.Proofs.YtknecfgacnknlaaDoor
set_option linter.unusedVariables false
set_option linter.unusedSimpArgs false
open Go.RowKit




theorem Own.cap {w : World} {base n c : Nat} {A : Option Addr} {l : List Int} (h : Own w base (.slice A n c) l) : n ≤ c ∧ c ≤ 9223372036854775807 := by
  rcases h.2 with ⟨e, h0⟩ | ⟨g, cap, cur, hv, hg, hh, h1, h2, r⟩
  · injection e with e1 e2 e3
    subst e2 e3
    exact ⟨Nat.le_refl _, by decide⟩
  · injection hv with e1 e2 e3
    subst e3
    rw [e2]
    exact ⟨h1, h2⟩
end Go.Proofs.YtknecfgacnknlaaDoor

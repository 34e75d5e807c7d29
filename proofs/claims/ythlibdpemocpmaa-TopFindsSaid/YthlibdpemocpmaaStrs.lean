/- Strings against the empty one and against each other, as the walk spells it. -/
import Derived.Test.YthlibdpemocpmaaBase
import Derived.Test.YthlibdpemocpmaaPerPlain
namespace Go.Proofs.Ythlibdpemocpmaa
set_option linter.unusedVariables false
set_option linter.unusedSimpArgs false
open Go.RowKit

theorem emp_false {s : ByteArray} (h : 0 < s.size) : s.toList.isEmpty = false := by
  cases e : s.toList.isEmpty
  · rfl
  · have h1 := (toList_nil_iff_emptyBytes s).1 (List.isEmpty_iff.1 e)
    subst h1
    exact absurd h (by decide)

theorem size_zero {s : ByteArray} (h : s.size = 0) : s = ByteArray.empty := ext_bt (by rw [h]; rfl) (fun j hj => by omega)

theorem emp_true {s : ByteArray} (h : s.size = 0) : s.toList.isEmpty = true := by
  rw [size_zero h]; simp

theorem toList_data (s : ByteArray) : s.toList = s.data.toList := ByteArray.toList_eq s

theorem eq_true' {a b : ByteArray} (h : a = b) : (a.toList == b.toList) = true := by subst h; simp
theorem eq_false' {a b : ByteArray} (h : a ≠ b) : (a.toList == b.toList) = false := by
  rw [beq_eq_false_iff_ne]
  intro e
  rw [toList_data, toList_data] at e
  exact h (ByteArray.ext (Array.ext' e))
end Go.Proofs.Ythlibdpemocpmaa

/- gram.Names, gram.Has at the grammar's own table; dyck.Check. -/
import Derived.Test.YthdckapielbonaaGramNames
import Derived.Maps.AppendAt
namespace Go.Proofs.Ythdckapielbonaa
set_option linter.unusedVariables false
set_option linter.unusedSimpArgs false
open Go.RowKit Go.Deep

attribute [local go_sem] get_bt

/-- The names whose bits are set, among the first k. -/
def setL (x : Nat) (k : Nat) : List Nat := (List.range k).filter fun j => x.testBit j
def setS (x k : Nat) : ByteArray := ⟨((setL x k).map fun j => UInt8.ofNat (65 + j)).toArray⟩

theorem setL_hit {x k : Nat} (h : x.testBit k = true) : setL x (k + 1) = setL x k ++ [k] := by
  unfold setL; rw [List.range_succ, List.filter_append]; simp [h]
theorem setL_miss {x k : Nat} (h : ¬ x.testBit k = true) : setL x (k + 1) = setL x k := by
  unfold setL; rw [List.range_succ, List.filter_append]; simp [h]
theorem setS_size (x k : Nat) : (setS x k).size = (setL x k).length := by
  show (List.toArray _).size = _
  simp
theorem setL_le (x k : Nat) : (setL x k).length ≤ k := by
  unfold setL
  exact Nat.le_trans (List.length_filter_le _ _) (by simp)
theorem setS_bt (x k i : Nat) (hk : k ≤ 26) (h : i < (setL x k).length) : bt (setS x k) i = 65 + (setL x k).getD i 0 := by
  obtain ⟨v, hv⟩ : ∃ v, (setL x k)[i]? = some v := ⟨_, List.getElem?_eq_getElem h⟩
  have hm := List.mem_of_getElem? hv
  have hvk : v < k := by
    unfold setL at hm
    exact List.mem_range.1 (List.mem_filter.1 hm).1
  have e1 : (setL x k).getD i 0 = v := by rw [List.getD_eq_getElem?_getD, hv]; rfl
  have e2 : ((setL x k).map fun j => UInt8.ofNat (65 + j)).getD i 0 = UInt8.ofNat (65 + v) := by rw [List.getD_eq_getElem?_getD, List.getElem?_map, hv]; rfl
  rw [e1]
  show (((setL x k).map fun j => UInt8.ofNat (65 + j)).getD i 0).toNat = 65 + v
  rw [e2]
  simp
  omega
theorem setS_zero (x : Nat) : setS x 0 = ByteArray.empty := rfl
theorem setS_hit {x k : Nat} (h : x.testBit k = true) : setS x (k + 1) = setS x k ++ ⟨#[UInt8.ofNat (65 + k)]⟩ := by
  unfold setS
  rw [setL_hit h]
  apply ByteArray.ext
  rw [ByteArray.data_append]
  simp
theorem setS_miss {x k : Nat} (h : ¬ x.testBit k = true) : setS x (k + 1) = setS x k := by
  unfold setS
  rw [setL_miss h]

/-- Name j stands among them just if its bit is set. -/
theorem setS_has {x k j : Nat} (hk : k ≤ 26) (hj : j < k) : x.testBit j = true ↔ ∃ i, i < (setS x k).size ∧ bt (setS x k) i = 65 + j := by
  constructor
  · intro h
    have hm : j ∈ setL x k := by
      unfold setL
      exact List.mem_filter.2 ⟨List.mem_range.2 hj, h⟩
    obtain ⟨i, hi, he⟩ := List.getElem_of_mem hm
    refine ⟨i, by rw [setS_size]; exact hi, ?_⟩
    rw [setS_bt x k i hk hi, List.getD_eq_getElem?_getD, List.getElem?_eq_getElem hi]
    show 65 + (setL x k)[i] = _
    rw [he]
  · rintro ⟨i, hi, he⟩
    rw [setS_size] at hi
    rw [setS_bt x k i hk hi, List.getD_eq_getElem?_getD, List.getElem?_eq_getElem hi] at he
    have he : 65 + (setL x k)[i] = 65 + j := he
    have hm := List.getElem_mem hi
    rw [show (setL x k)[i] = j by omega] at hm
    unfold setL at hm
    exact (List.mem_filter.1 hm).2
end Go.Proofs.Ythdckapielbonaa

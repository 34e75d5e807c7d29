/- letterbecksame.Back: a text from its end. -/
import Derived.Test.YthdckapielbonaaBase
import Derived.Test.YthdckapielbonaaStr
namespace Go.Proofs.Ythdckapielbonaa
set_option linter.unusedVariables false
set_option linter.unusedSimpArgs false
open Go.RowKit

/-- The first k bytes, turned round. -/
def backTo (s : ByteArray) (k : Nat) : ByteArray := ⟨((s.data.toList.take k).reverse).toArray⟩
def back (s : ByteArray) : ByteArray := backTo s s.size

theorem backTo_size (s : ByteArray) (k : Nat) (h : k ≤ s.size) : (backTo s k).size = k := by
  have : s.data.toList.length = s.size := by simp
  show ((s.data.toList.take k).reverse).toArray.size = k
  simp only [List.size_toArray, List.length_reverse, List.length_take]
  omega

theorem backTo_step (s : ByteArray) (k : Nat) (h : k < s.size) : s.extract k (k + 1) ++ backTo s k = backTo s (k + 1) := by
  have hl : s.data.toList.length = s.size := by simp
  have h' : k < s.data.toList.length := by omega
  apply ByteArray.ext
  apply Array.ext'
  have e1 : (s.extract k (k + 1)).data.toList = [s.data.toList[k]] := by
    simp only [ByteArray.data_extract, Array.toList_extract]
    rw [List.extract_eq_take_drop]
    rw [show k + 1 - k = 1 from by omega]
    rw [← List.getElem_cons_drop h']
    rfl
  have e2 : (s.extract k (k + 1) ++ backTo s k).data.toList = (s.extract k (k + 1)).data.toList ++ (backTo s k).data.toList := by simp
  rw [e2, e1]
  show [s.data.toList[k]] ++ ((s.data.toList.take k).reverse).toArray.toList = ((s.data.toList.take (k + 1)).reverse).toArray.toList
  rw [List.take_succ_eq_append_getElem h']
  simp

theorem back_size (s : ByteArray) : (back s).size = s.size := backTo_size s _ (Nat.le_refl _)

theorem back_bt (s : ByteArray) (j : Nat) (h : j < s.size) : bt (back s) j = bt s (s.size - 1 - j) := by
  have hl : s.data.toList.length = s.size := by simp
  unfold bt
  show (((s.data.toList.take s.size).reverse).toArray.toList.getD j 0).toNat = _
  rw [List.take_of_length_le (by omega)]
  simp only [List.getD_eq_getElem?_getD, List.toList_toArray]
  rw [List.getElem?_reverse (by omega), hl]

set_option maxHeartbeats 400000 in
theorem back_any (w : World) (s : ByteArray) (hs : s.size ≤ maxLen) :
    Calls Try.prog 11 #[.string s] w fun e w' => e = .returned (.string (back s)) ∧ w = w' := by
  unfold maxLen at hs
  go_enter Try.func11, Try.ntmps11
  go_wp2
  go_loop [3, 4] (fun t i => ∃ k : Nat, k ≤ s.size ∧ i = .int .i64 k ∧ t = .string (backTo s k)) (fun _ i => s.size - (intOf i).toNat)
  case atStart => exact ⟨0, Nat.zero_le _, rfl, rfl⟩
  case round =>
    obtain ⟨k, hk, rfl, rfl⟩ := hrel
    by_cases hlt : k < s.size
    · have hst := hid (backTo_step s k hlt)
      have hz := backTo_size s k hk
      have hz' : (backTo s k).size ≤ k := by omega
      clear hz
      go_wp2
      go_round
      case rel => exact ⟨k + 1, hlt, by go_num, by rw [hst.out]⟩
      case measure => simp [intOf]; omega
    · go_wp2
      go_ret
      exact ⟨by rw [show k = s.size from by omega]; rfl, rfl⟩
end Go.Proofs.Ythdckapielbonaa

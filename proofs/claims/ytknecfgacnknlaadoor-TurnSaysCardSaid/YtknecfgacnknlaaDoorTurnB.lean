/- The bytes of a turn. -/
import Derived.Test.YtknecfgacnknlaaDoorStrs
import Derived.Test.YtknecfgacnknlaaDoorRootPlain
namespace Go.Proofs.YtknecfgacnknlaaDoor
set_option linter.unusedVariables false
set_option linter.unusedSimpArgs false

def turnB (s : ByteArray) (k : Nat) : ByteArray := s.extract k s.size ++ s.extract 0 k

theorem turnB_size {s : ByteArray} {k : Nat} (hk : k ≤ s.size) : (turnB s k).size = s.size := by
  unfold turnB
  rw [ByteArray.size_append]
  simp; omega

theorem turnB_bt {s : ByteArray} {k : Nat} (hk : k ≤ s.size) (j : Nat) (hj : j < s.size) : bt (turnB s k) j = rot (bt s) s.size k j := by
  unfold turnB rot
  have z1 : (s.extract k s.size).size = s.size - k := by simp
  rw [bt_append, z1]
  split
  · rw [bt_extract _ _ _ _ (by omega), Nat.mod_eq_of_lt (by omega)]
  · rw [bt_extract _ _ _ _ (by omega), Nat.zero_add]
    have e : k + j = (j - (s.size - k)) + s.size := by omega
    rw [e, Nat.add_mod_right, Nat.mod_eq_of_lt (by omega)]

/-- Two turns are one text just if they go alike. -/
theorem turnB_eq {s : ByteArray} {i j : Nat} (hi : i ≤ s.size) (hj : j ≤ s.size) : turnB s i = turnB s j ↔ REq (bt s) s.size i j := by
  constructor
  · intro h x hx
    rw [← turnB_bt hi x hx, ← turnB_bt hj x hx, h]
  · intro h
    refine ext_bt (by rw [turnB_size hi, turnB_size hj]) fun x hx => ?_
    rw [turnB_size hi] at hx
    rw [turnB_bt hi x hx, turnB_bt hj x hx]
    exact h x hx

theorem turnB_zero (s : ByteArray) : turnB s 0 = s := by
  refine ext_bt (turnB_size (Nat.zero_le _)) fun x hx => ?_
  rw [turnB_size (Nat.zero_le _)] at hx
  rw [turnB_bt (Nat.zero_le _) x hx]
  unfold rot
  rw [Nat.zero_add, Nat.mod_eq_of_lt hx]
end Go.Proofs.YtknecfgacnknlaaDoor

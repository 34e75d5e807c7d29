/- letterbeckref1.Word, Stands: what is wrong with a text and a word; where a word stands. -/
import Derived.Test.YtknecfgacnknlaaDoorTold
import Derived.Test.YtknecfgacnknlaaDoorFind
import Derived.Test.YtknecfgacnknlaaDoorBegins
namespace Go.Proofs.YtknecfgacnknlaaDoor
set_option linter.unusedVariables false
set_option linter.unusedSimpArgs false
open Go.RowKit

set_option maxHeartbeats 400000 in
theorem word_ok (w : World) (t s : ByteArray) (ht : t.size ≤ 24) (hs : s.size ≤ 24) (hpos : 0 < s.size) :
    Calls Tryd.prog 26 #[.string t, .string s] w fun e w' => e = .returned (.int .i64 0) ∧ w = w' := by
  have e1 : ((s.size : Int) == 0) = false := by rw [beq_eq_false_iff_ne]; omega
  go_enter Tryd.func26, Tryd.ntmps26
  go_wp2
  go_ret
  exact ⟨rfl, rfl⟩

set_option maxHeartbeats 400000 in
theorem word_none (w : World) (t s : ByteArray) (ht : t.size ≤ 24) (hs : s.size = 0) :
    Calls Tryd.prog 26 #[.string t, .string s] w fun e w' => e = .returned (.int .i64 5) ∧ w = w' := by
  have e1 : ((s.size : Int) == 0) = true := by rw [beq_iff_eq]; omega
  have hs2 : s.size ≤ 24 := by omega
  clear hs
  go_enter Tryd.func26, Tryd.ntmps26
  go_wp2
  go_ret
  exact ⟨rfl, rfl⟩

set_option maxHeartbeats 400000 in
theorem word_bad (w : World) (t s : ByteArray) (h : 24 < t.size ∨ 24 < s.size) :
    Calls Tryd.prog 26 #[.string t, .string s] w fun e w' => e = .returned (.int .i64 4) ∧ w = w' := by
  by_cases ht : 24 < t.size
  · clear h
    go_enter Tryd.func26, Tryd.ntmps26
    go_wp2
    go_ret
    exact ⟨rfl, rfl⟩
  · have hs : 24 < s.size := by omega
    clear h
    have e1 : decide (24 < (t.size : Int)) = false := by simp; omega
    go_enter Tryd.func26, Tryd.ntmps26
    go_wp2
    go_ret
    exact ⟨rfl, rfl⟩

/-- What is wrong, if anything is: told alike by the program and by the reference. -/
theorem check_word (t s : ByteArray) (ht : t.size ≤ maxLen) (hs : s.size ≤ maxLen) : (t.size ≤ 24 ∧ s.size ≤ 24 ∧ 0 < s.size) ∨
    (∃ x : Int, (x == 0) = false ∧ Hid (∀ w, Calls Tryd.prog 27 #[.string t, .string s] w fun e w' => e = .returned (errv x) ∧ Below w.heap.size w w') ∧
      Hid (∀ w, Calls Tryd.prog 26 #[.string t, .string s] w fun e w' => e = .returned (.int .i64 x) ∧ w = w')) := by
  by_cases h1 : 24 < t.size ∨ 24 < s.size
  · exact .inr ⟨4, by decide, fun w => check_bad w t s h1 ht hs, fun w => word_bad w t s h1⟩
  · by_cases h2 : s.size = 0
    · exact .inr ⟨5, by decide, fun w => check_none w t s (by omega) h2, fun w => word_none w t s (by omega) h2⟩
    · exact .inl (by omega)

/-- The places below i. -/
def posLow (f : Nat → Nat) (n : Nat) (t : Nat → Nat) (m i : Nat) : List Int := ((List.range i).filter fun p => decide (At f n t m p)).map fun p : Nat => (p : Int)
theorem posLow_hit {f t : Nat → Nat} {n m i : Nat} (h : At f n t m i) : posLow f n t m (i + 1) = posLow f n t m i ++ [(i : Int)] := by
  unfold posLow
  rw [List.range_succ, List.filter_append, List.map_append]
  simp [h]
theorem posLow_miss {f t : Nat → Nat} {n m i : Nat} (h : ¬ At f n t m i) : posLow f n t m (i + 1) = posLow f n t m i := by
  unfold posLow
  rw [List.range_succ, List.filter_append, List.map_append]
  simp [h]
theorem posLow_len (f t : Nat → Nat) (n m i : Nat) : (posLow f n t m i).length ≤ i := by
  unfold posLow
  rw [List.length_map]
  exact Nat.le_trans (List.length_filter_le _ _) (by simp)

set_option maxRecDepth 100000 in
set_option maxHeartbeats 1000000 in
theorem stands_any (w : World) (t s : ByteArray) (ht : t.size ≤ 24) (hs : s.size ≤ 24) :
    Calls Tryd.prog 28 #[.string t, .string s] w (RetL w (posI (bt s) s.size (bt t) t.size)) := by
  go_enter Tryd.func28, Tryd.ntmps28
  go_wp2_with fail
  go_loopw [5, 6] (fun v i wr => ∃ m : Nat, m ≤ t.size ∧ i = .int .i64 m ∧ Own wr w.heap.size v (posLow (bt s) s.size (bt t) t.size m) ∧ Below w.heap.size w wr) (fun _ i _ => 25 - (intOf i).toNat)
  case atStart => exact ⟨0, by omega, rfl, Own.nil _ _, Below.refl _ _⟩
  case round =>
    obtain ⟨m, hm, rfl, ho, hb⟩ := hrel
    have hlen := posLow_len (bt s) (bt t) s.size t.size m
    have hwr := hb.size
    by_cases hlt : m < t.size
    · by_cases hA : At (bt s) s.size (bt t) t.size m
      · have Hb := hid (fun w => begins_at w t s m hm (by unfold maxLen; omega) (by unfold maxLen; omega) true ⟨fun _ => hA, fun _ => rfl⟩)
        have Hst := hid (posLow_hit hA)
        clear hA
        go_wp2_with fail
        refine (Hb.out _).mono ?_
        rintro e w2 ⟨rfl, rfl⟩
        go_wp2_with (first
          | (at_builtin; go_must (refine wp_append_int _ rfl _ _ rfl w.heap.size _ _ rfl (ho.alloc _) _ _ (m : Int) rfl (by simp) (by omega) (by simp; omega) ?_); intro v' w4 ho4 hg4; have hb4 : Below w.heap.size w w4 := (hb.alloc hwr _).grown hg4 (by simp; omega) (fun k hk => (ho.lt k hk).1)))
        go_roundw
        case rel => exact ⟨m + 1, by omega, by go_num, by rw [Hst.out]; exact ho4, hb4⟩
        case measure => simp [intOf]; omega
      · have Hb := hid (fun w => begins_at w t s m hm (by unfold maxLen; omega) (by unfold maxLen; omega) false ⟨fun h => absurd h (by decide), fun h => absurd h hA⟩)
        have Hst := hid (posLow_miss (i := m) hA)
        clear hA
        go_wp2_with fail
        refine (Hb.out _).mono ?_
        rintro e w2 ⟨rfl, rfl⟩
        go_wp2
        go_roundw
        case rel => exact ⟨m + 1, by omega, by go_num, by rw [Hst.out]; exact ho, hb⟩
        case measure => simp [intOf]; omega
    · have hmn : m = t.size := by omega
      rw [hmn] at ho
      have ho2 : Own wr w.heap.size u5 (posI (bt s) s.size (bt t) t.size) := ho
      clear hmn ho
      obtain ⟨A', c', hv⟩ := ho2.shape
      subst hv
      go_wp2
      go_ret
      exact ⟨A', c', rfl, ho2, hb⟩
end Go.Proofs.YtknecfgacnknlaaDoor

/- letterbecklaw1.TurnCount returns true at every text: the walk. -/
import Derived.Test.YtkmoohhnjgpchaaTurnTurns
import Derived.Test.YtkmoohhnjgpchaaAdded
namespace Go.Proofs.Ytkmoohhnjgpchaa
set_option linter.unusedVariables false
set_option linter.unusedSimpArgs false
open Go.RowKit

/-- The turns seen so far: those before the root's end, each once. -/
def turns (s : ByteArray) (m : Nat) : List ByteArray := (List.range m).map (turnB s)

theorem turns_step {s : ByteArray} (hn : 0 < s.size) {i : Nat} (hi : i < s.size) :
    (turnB s i ∈ turns s (min i (rootOf (bt s) s.size)) ∧ turns s (min (i + 1) (rootOf (bt s) s.size)) = turns s (min i (rootOf (bt s) s.size))) ∨
    (¬ turnB s i ∈ turns s (min i (rootOf (bt s) s.size)) ∧ turns s (min (i + 1) (rootOf (bt s) s.size)) = turns s (min i (rootOf (bt s) s.size)) ++ [turnB s i]) := by
  have hr := rootOf_root (f := bt s) hn
  have hl := rootOf_le (f := bt s) hn
  generalize rootOf (bt s) s.size = k at hr hl
  have key : ∀ a b, a ≤ b → b < s.size → (turnB s a = turnB s b ↔ k ∣ b - a) := fun a b hab hb => (turnB_eq (by omega) (by omega)).trans (req_root hn hr hab)
  rcases Nat.lt_or_ge i k with h | h
  · right
    rw [Nat.min_eq_left (by omega), Nat.min_eq_left (by omega)]
    refine ⟨fun hm => ?_, by unfold turns; rw [List.range_succ, List.map_append]; rfl⟩
    unfold turns at hm
    obtain ⟨a, ha, he⟩ := List.mem_map.1 hm
    have ha' : a < i := by simpa using ha
    have h1 := (key a i (by omega) hi).1 he
    have := Nat.le_of_dvd (by omega) h1
    omega
  · left
    rw [Nat.min_eq_right (by omega), Nat.min_eq_right (by omega)]
    refine ⟨?_, rfl⟩
    unfold turns
    refine List.mem_map.2 ⟨i % k, by simpa using Nat.mod_lt i hr.1, ?_⟩
    refine (key (i % k) i (Nat.mod_le _ _) hi).2 ?_
    have : i - i % k = k * (i / k) := by have := Nat.div_add_mod i k; omega
    rw [this]; exact Nat.dvd_mul_right _ _

@[simp] theorem turns_len (s : ByteArray) (m : Nat) : (turns s m).length = m := by simp [turns]

set_option maxHeartbeats 1000000 in
theorem walk_turnCount (a0 : ByteArray) (w0 : a0.size ≤ maxLen) (W : World) (hM : HasMax W) :
    Calls Try.prog 9 #[.string a0] W fun e w' => e = .returned (.bool true) ∧ Below W.heap.size W w' := by
  have hcF := hid (turnFact_true W hM)
  clear hM
  by_cases hs : a0.size ≤ 24
  · have hkk : rootOf (bt a0) a0.size ≤ a0.size := by
      rcases Nat.eq_zero_or_pos a0.size with h | h
      · rw [h]; exact Nat.le_refl _
      · exact (rootOf_le h).2
    have hcA := hid (fun w => turnRoot_z w a0 hs)
    have hstep := hid (fun i (hi : i < a0.size) => turns_step (s := a0) (by omega) hi)
    generalize rootOf (bt a0) a0.size = k at hkk hcA hstep
    go_enter Try.func9, Try.ntmps9
    go_wp2_with fail
    refine hcF.out.mono ?_
    rintro e v1 ⟨rfl, hb1⟩
    go_wp2_with fail
    refine (hcA.out _).mono ?_
    rintro e v2 ⟨rfl, hb2⟩
    go_wp2_with fail
    go_loopw [6, 7] (fun v i wr => ∃ r : Nat, r ≤ a0.size ∧ i = .int .i64 r ∧ OwnS wr v2.heap.size v (turns a0 (min r k)) ∧ Below v2.heap.size v2 wr) (fun _ i _ => a0.size - (intOf i).toNat)
    case atStart => exact ⟨0, Nat.zero_le _, rfl, by rw [Nat.zero_min]; exact OwnS.nil _ _, Below.refl _ _⟩
    case round =>
      obtain ⟨r, hr, rfl, ho, hb⟩ := hrel
      by_cases hlt : r < a0.size
      · have hlen : (turns a0 (min r k)).length ≤ 24 := by rw [turns_len]; omega
        have hst := hid (hstep.out r hlt)
        have hcT := hid (fun w => turn_q w a0 r (by omega) hs)
        have hwr := hb.size
        go_wp2_with fail
        refine (hcT.out _).mono ?_
        rintro e w3 ⟨rfl, m, rfl⟩
        go_wp2_with fail
        refine (added_any _ v2.heap.size _ _ _ (ho.drewN m) (by omega) hwr _ hst.out).mono ?_
        intro e w4 h4
        obtain ⟨v', rfl, ho4, hb4⟩ := h4.out
        clear h4
        go_wp2
        go_roundw
        case rel => exact ⟨r + 1, hlt, by go_num, ho4, (below_dn hb m).trans hb4⟩
        case measure => simp [intOf]; omega
      · obtain ⟨A, c, hv⟩ := ho.shape
        subst hv
        have e1 : ((k : Int) == (min r k : Nat)) = true := by rw [beq_iff_eq]; omega
        go_wp2
        go_ret
        exact ⟨rfl, bch hb1 (bch hb2 hb)⟩
  · go_enter Try.func9, Try.ntmps9
    go_wp2_with fail
    refine hcF.out.mono ?_
    rintro e v1 ⟨rfl, hb1⟩
    go_wp2_with fail
    refine (turnRoot_bad _ a0 (by omega) w0).mono ?_
    rintro e v2 ⟨rfl, hb2⟩
    go_wp2
    go_ret
    exact ⟨rfl, bch hb1 hb2⟩
end Go.Proofs.Ytkmoohhnjgpchaa

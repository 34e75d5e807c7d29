/- letterbeckref1.LeastTurn, Root, SameTurn. -/
import Derived.Test.YtknecfgacnknlaaDoorTold
import Derived.Test.YtknecfgacnknlaaDoorSame
import Derived.Test.YtknecfgacnknlaaDoorLynRef
import Derived.Test.YtknecfgacnknlaaDoorLynSPlain
namespace Go.Proofs.YtknecfgacnknlaaDoor
set_option linter.unusedVariables false
set_option linter.unusedSimpArgs false
open Go.RowKit

theorem turnRef_q (w : World) (s : ByteArray) (k : Nat) (hk : k ≤ s.size) (hs : s.size ≤ 24) :
    Calls Tryd.prog 70 #[.string s, .int .i64 k] w fun e w' => e = .returned (.string (turnB s k)) ∧ ∃ m, w' = w.drewN m := by
  go_enter Tryd.func70, Tryd.ntmps70
  go_wp2
  go_quiet (fail)
  go_wp2
  go_ret
  exact ⟨rfl, _, rfl⟩

theorem rootOf_z (w : World) (s : ByteArray) (hs : s.size ≤ 24) :
    Calls Tryd.prog 42 #[.string s] w fun e w' => e = .returned (.tuple #[.int .i64 (rootOf (bt s) s.size), .nilIface]) ∧ Below w.heap.size w w' := by
  rcases Nat.eq_zero_or_pos s.size with h | h
  · have e : rootOf (bt s) s.size = 0 := by rw [h]; rfl
    rw [e]; exact turnRoot_none w s h
  · exact turnRoot_ok w s hs h

set_option maxRecDepth 100000 in
set_option maxHeartbeats 1000000 in
theorem leastRef_any (w : World) (s : ByteArray) (hs : s.size ≤ 24) (r : Nat) (hr : s.size = 0 ∧ r = 0 ∨ IsLeast (bt s) s.size r) :
    Calls Tryd.prog 39 #[.string s] w fun e w' => e = .returned (.int .i64 r) ∧ ∃ m, w' = w.drewN m := by
  have HR := hid hr
  clear hr
  go_enter Tryd.func39, Tryd.ntmps39
  go_wp2_with fail
  go_loopw [3, 4] (fun b i wr => ∃ k q u : Nat, 1 ≤ k ∧ (k ≤ s.size ∨ k = 1) ∧ q < k ∧ b = .int .i64 q ∧ i = .int .i64 k ∧ wr = w.drewN u ∧ Hid (TBest (bt s) s.size k q)) (fun _ i _ => s.size - (intOf i).toNat)
  case atStart => exact ⟨1, 0, 0, by omega, .inr rfl, by omega, rfl, rfl, rfl, tbest_start _ _⟩
  case round =>
    obtain ⟨k, q, u, hk1, hk, hqk, rfl, rfl, rfl, hB⟩ := hrel
    by_cases hlt : k < s.size
    · have hk2 : k ≤ s.size := by omega
      have hq2 : q ≤ s.size := by omega
      have hcA := hid (fun w => turnRef_q w s k hk2 hs)
      have hcB := hid (fun w => turnRef_q w s q hq2 hs)
      have hzA := turnB_size hk2
      have hzB := turnB_size hq2
      have hiff := bef_turn hk2 hq2
      have hA : (turnB s k).size ≤ 1000 := by omega
      have hB2 : (turnB s q).size ≤ 1000 := by omega
      rcases Classical.em (RLt (bt s) s.size k q) with hY | hY
      · have hc := hid (fun w => before_any w (turnB s k) (turnB s q) hA hB2 true ⟨fun _ => hiff.2 hY, fun _ => rfl⟩)
        have Hn := hid (tbest_hit hB.out hY)
        clear hiff hY hzA hzB hA hB2
        generalize turnB s k = X at *
        generalize turnB s q = Y at *
        go_wp2_with fail
        refine (hcA.out _).mono ?_
        rintro e v1 ⟨rfl, m1, rfl⟩
        go_wp2_with fail
        refine (hcB.out _).mono ?_
        rintro e v1 ⟨rfl, m2, rfl⟩
        go_wp2_with fail
        refine (hc.out _).mono ?_
        rintro e v1 ⟨rfl, m3, rfl⟩
        go_wp2
        go_roundw
        case rel => exact ⟨k + 1, k, _, by omega, .inl hlt, by omega, rfl, by go_num, rfl, Hn⟩
        case measure => simp [intOf]; omega
      · have hc := hid (fun w => before_any w (turnB s k) (turnB s q) hA hB2 false ⟨fun h => absurd h (by decide), fun h => absurd (hiff.1 h) hY⟩)
        have Hn := hid (tbest_miss hB.out hY)
        clear hiff hY hzA hzB hA hB2
        generalize turnB s k = X at *
        generalize turnB s q = Y at *
        go_wp2_with fail
        refine (hcA.out _).mono ?_
        rintro e v1 ⟨rfl, m1, rfl⟩
        go_wp2_with fail
        refine (hcB.out _).mono ?_
        rintro e v1 ⟨rfl, m2, rfl⟩
        go_wp2_with fail
        refine (hc.out _).mono ?_
        rintro e v1 ⟨rfl, m3, rfl⟩
        go_wp2
        go_roundw
        case rel => exact ⟨k + 1, q, _, by omega, .inl hlt, by omega, rfl, by go_num, rfl, Hn⟩
        case measure => simp [intOf]; omega
    · have hq : q = r := by
        rcases HR.out with ⟨h0, h1⟩ | h0
        · omega
        · have h1 := h0.1
          have hkn : k = s.size := by omega
          have := hB.out
          rw [hkn] at this
          exact least_unique (tbest_end this) h0
      subst hq
      go_wp2
      go_ret
      exact ⟨rfl, _, rfl⟩

/-- How long the text in a slot is. -/
def txtLen : Value → Nat
  | .string s => s.size
  | _ => 0

set_option maxRecDepth 100000 in
set_option maxHeartbeats 1000000 in
theorem rootRef_any (w : World) (s : ByteArray) (hs : s.size ≤ 24) (r : Nat) (hr : r = rootOf (bt s) s.size) :
    Calls Tryd.prog 40 #[.string s] w fun e w' => e = .returned (.int .i64 r) ∧ ∃ m, w' = w.drewN m := by
  have HR := hid hr
  clear hr
  go_enter Tryd.func40, Tryd.ntmps40
  go_wp2_with fail
  go_loopw [3] (fun i wr => ∃ k u : Nat, 1 ≤ k ∧ (k ≤ s.size ∨ k = 1) ∧ i = .int .i64 k ∧ wr = w.drewN u ∧ Hid (∀ j, 0 < j → j < k → ¬ (j ∣ s.size ∧ Per (bt s) s.size j))) (fun i _ => s.size - (intOf i).toNat)
  case atStart => exact ⟨1, 0, by omega, .inr rfl, rfl, rfl, hid fun j h1 h2 => by omega⟩
  case round =>
    obtain ⟨k, u, hk1, hk, rfl, rfl, hno⟩ := hrel
    by_cases hlt : k < s.size
    · have hk2 : k ≤ s.size := by omega
      go_wp2_with fail
      go_loopw [4] (fun v wr => ∃ (t : ByteArray) (u : Nat), t.size ≤ 48 ∧ v = .string t ∧ wr = w.drewN u ∧ Hid (Reps s k t)) (fun v _ => 48 - txtLen v)
      case atStart => exact ⟨ByteArray.empty, _, by simp, rfl, rfl, reps_start (by omega)⟩
      case round =>
        obtain ⟨t, u', ht, rfl, rfl, hRp⟩ := hrel
        by_cases hts : t.size < s.size
        · have hts' : (t.size : Int) < s.size := by omega
          have Hn := hid (reps_step (by omega) hk2 hRp.out hts)
          have hsz : (t ++ s.extract 0 k).size = t.size + k := by simp; omega
          go_wp2_with fail
          go_roundw
          case rel => exact ⟨_, _, by omega, rfl, rfl, Hn⟩
          case measure => simp only [txtLen]; omega
        · have hts' : ¬ (t.size : Int) < s.size := by omega
          have hiff := reps_eq (by omega) hk2 hRp.out (by omega)
          by_cases he : t = s
          · have h1 := eq_true' he
            have hv : r = k := by
              have := hiff.1 he
              rw [HR.out]
              exact root_first (by omega) this.1 this.2 (by omega) hno.out
            subst hv
            clear hiff he
            go_wp2_with fail
            go_ret
            exact ⟨rfl, _, rfl⟩
          · have h1 := eq_false' he
            have Hno := hid (fun h => he (hiff.2 h))
            clear hiff he
            go_wp2_with fail
            go_roundw
            case rel =>
              refine ⟨k + 1, _, by omega, .inl hlt, by go_num, rfl, hid fun j h1 h2 => ?_⟩
              by_cases e : j = k
              · rw [e]; exact Hno.out
              · exact hno.out j h1 (by omega)
            case measure => simp [intOf]; omega
    · have hv : r = s.size := by
        rw [HR.out]
        rcases Nat.eq_zero_or_pos s.size with h0 | h0
        · rw [h0]; rfl
        · exact root_first h0 (Nat.dvd_refl _) ⟨Nat.le_refl _, fun j hj => by omega⟩ h0 fun j h1 h2 => hno.out j h1 (by omega)
      subst hv
      go_wp2_with fail
      go_ret
      exact ⟨rfl, _, rfl⟩

set_option maxRecDepth 100000 in
set_option maxHeartbeats 1000000 in
theorem sameRef_any (w : World) (a b : ByteArray) (ha : a.size ≤ 24) (x : Bool) (hx : x = true ↔ ∃ i, i ≤ a.size ∧ b = turnB a i) :
    Calls Tryd.prog 44 #[.string a, .string b] w fun e w' => e = .returned (.bool x) ∧ ∃ m, w' = w.drewN m := by
  have HX := hid hx
  clear hx
  by_cases he : a = b
  · have h1 := eq_true' he
    have hv : x = true := HX.out.2 ⟨0, by omega, by rw [turnB_zero, he]⟩
    subst hv
    clear he
    go_enter Tryd.func44, Tryd.ntmps44
    go_wp2_with fail
    go_ret
    exact ⟨rfl, 0, rfl⟩
  · have h1 := eq_false' he
    have He := hid he
    clear he
    go_enter Tryd.func44, Tryd.ntmps44
    go_wp2_with fail
    go_loopw [5] (fun i wr => ∃ k u : Nat, k ≤ a.size ∧ i = .int .i64 k ∧ wr = w.drewN u ∧ Hid (∀ j, j < k → b ≠ turnB a j)) (fun i _ => a.size - (intOf i).toNat)
    case atStart => exact ⟨0, 0, by omega, rfl, rfl, hid fun j h => by omega⟩
    case round =>
      obtain ⟨k, u, hk, rfl, rfl, hno⟩ := hrel
      by_cases hlt : k < a.size
      · have hcA := hid (fun w => turnRef_q w a k hk ha)
        obtain ⟨X, hX, HXX⟩ : ∃ X, turnB a k = X ∧ Hid (turnB a k = X) := ⟨_, rfl, rfl⟩
        rw [hX] at hcA
        clear hX
        by_cases he : X = b
        · have h2 := eq_true' he
          have hv : x = true := HX.out.2 ⟨k, hk, by rw [HXX.out, he]⟩
          subst hv
          clear he
          go_wp2_with fail
          refine (hcA.out _).mono ?_
          rintro e v1 ⟨rfl, m1, rfl⟩
          go_wp2_with fail
          go_ret
          exact ⟨rfl, _, rfl⟩
        · have h2 := eq_false' he
          have He2 := hid he
          clear he
          go_wp2_with fail
          refine (hcA.out _).mono ?_
          rintro e v1 ⟨rfl, m1, rfl⟩
          go_wp2_with fail
          go_roundw
          case rel =>
            refine ⟨k + 1, _, by omega, by go_num, rfl, hid fun j h3 h4 => ?_⟩
            by_cases e : j = k
            · subst e; exact He2.out (by rw [← HXX.out, h4])
            · exact hno.out j (by omega) h4
          case measure => simp [intOf]; omega
      · have hv : x = false := by
          cases x
          · rfl
          · obtain ⟨i, h3, h4⟩ := HX.out.1 rfl
            by_cases e : i = a.size
            · refine absurd ?_ He.out
              rw [h4, e]
              have := (turnB_eq (s := a) (i := a.size) (j := 0) (by omega) (by omega)).2 (fun y hy => by unfold rot; rw [Nat.add_mod_left, Nat.zero_add])
              rw [this, turnB_zero]
            · exact absurd h4 (hno.out i (by omega))
        subst hv
        go_wp2_with fail
        go_ret
        exact ⟨rfl, _, rfl⟩
end Go.Proofs.YtknecfgacnknlaaDoor

/- letterbecklaw1.PeriodFine returns true at all arguments: the walk. -/
import Derived.Test.YtocbkapoibddaaaPeriodFact
namespace Go.Proofs.Ytocbkapoibddaaa
set_option linter.unusedVariables false
set_option linter.unusedSimpArgs false
open Go.RowKit

theorem walk_periodFine_no (a0 : ByteArray) (a1 a2 : Int) (W : World) (hs : a0.size ≤ 24) (x y : Bool) (hx : x = true ↔ HasP (bt a0) a0.size a1) (hy : y = true ↔ HasP (bt a0) a0.size a2) (hn : (x && y) = false) :
    Calls Try.prog 10 #[.string a0, .int .i64 a1, .int .i64 a2] W fun e w' => e = .returned (.bool true) ∧ Below W.heap.size W w' := by
  have Hx := hid (fun w => periodHas_ok w a0 a1 hs x hx)
  have Hy := hid (fun w => periodHas_ok w a0 a2 hs y hy)
  clear hx hy
  cases x <;> cases y <;> cases hn
  all_goals
    go_enter Try.func10, Try.ntmps10
    go_wp2_with fail
    refine (periodFact_true _).mono ?_
    rintro e v1 ⟨rfl, hb1⟩
    go_wp2_with fail
    refine (Hx.out _).mono ?_
    rintro e v2 ⟨rfl, hb2⟩
    go_wp2_with fail
    refine (Hy.out _).mono ?_
    rintro e v3 ⟨rfl, hb3⟩
    go_wp2
    go_quiet (fail)
    go_wp2
    go_ret
    exact ⟨rfl, bch hb1 (bch hb2 (below_dn hb3 _))⟩

set_option maxHeartbeats 800000 in
set_option maxRecDepth 100000 in
theorem walk_periodFine_yes (a0 : ByteArray) (p q : Nat) (W : World) (hs : a0.size ≤ 24) (hp0 : 0 < p) (hq0 : 0 < q) (hp : Per (bt a0) a0.size p) (hq : Per (bt a0) a0.size q) :
    Calls Try.prog 10 #[.string a0, .int .i64 p, .int .i64 q] W fun e w' => e = .returned (.bool true) ∧ Below W.heap.size W w' := by
  have hpn := hp.1
  have hqn := hq.1
  have Hp := hid hp
  have Hq := hid hq
  clear hp hq
  go_enter Try.func10, Try.ntmps10
  go_wp2_with fail
  refine (periodFact_true _).mono ?_
  rintro e v1 ⟨rfl, hb1⟩
  go_wp2_with fail
  refine (periodHas_yes _ a0 p hs ⟨p, rfl, hp0, Hp.out⟩).mono ?_
  rintro e v2 ⟨rfl, hb2⟩
  go_wp2_with fail
  refine (periodHas_yes _ a0 q hs ⟨q, rfl, hq0, Hq.out⟩).mono ?_
  rintro e v3 ⟨rfl, hb3⟩
  go_wp2_with fail
  refine (in_true _ _ _ _ (by omega) (by omega)).mono ?_
  rintro e v4 ⟨rfl, rfl⟩
  go_wp2_with fail
  refine (in_true _ _ _ _ (by omega) (by omega)).mono ?_
  rintro e v4 ⟨rfl, rfl⟩
  go_wp2_with fail
  go_loop [12, 13] (fun a b => ∃ x y : Nat, x ≤ 24 ∧ y ≤ 24 ∧ a = .int .i64 x ∧ b = .int .i64 y ∧ Hid (Nat.gcd x y = Nat.gcd p q)) (fun _ b => (intOf b).toNat)
  case atStart => exact ⟨p, q, by omega, by omega, rfl, rfl, rfl⟩
  case round =>
    obtain ⟨x, y, hx, hy, rfl, rfl, hg⟩ := hrel
    by_cases hy0 : 0 < y
    · have hm : ((x : Int) % (y : Int)) = ((x % y : Nat) : Int) := rfl
      have hml := Nat.mod_lt x hy0
      have hm1 : 0 ≤ ((x : Int) % (y : Int)) := by rw [hm]; exact Int.natCast_nonneg _
      have hm2 : ((x : Int) % (y : Int)) ≤ 24 := by rw [hm]; omega
      have Hm := hid hm
      clear hm
      go_wp2_with fail
      go_round
      case rel => exact ⟨y, x % y, hy, by omega, rfl, by rw [Hm.out], hid (by rw [Nat.gcd_comm, ← hg.out, Nat.gcd_comm x y, Nat.gcd_rec y x])⟩
      case measure =>
        have := Hm.out
        simp only [intOf]
        omega
    · have hy1 : y = 0 := by omega
      have hxg : x = Nat.gcd p q := by have := hg.out; rw [hy1, Nat.gcd_zero_right] at this; exact this
      have hxp : 0 < x := by rw [hxg]; exact Nat.gcd_pos_of_pos_left _ hp0
      have Hx := hid hxg
      clear hy1 hxg hg
      by_cases hlt : (a0.size : Int) < p + q - x
      · go_wp2
        go_ret
        exact ⟨rfl, bch hb1 (bch hb2 hb3)⟩
      · go_wp2_with fail
        refine (periodHas_yes _ a0 x hs ⟨x, rfl, hxp, by
          rw [Hx.out]
          exact per_gcd (p + q) p q a0.size (Nat.le_refl _) hp0 hq0 Hp.out Hq.out (by rw [← Hx.out]; omega)⟩).mono ?_
        rintro e v4 ⟨rfl, hb4⟩
        go_wp2
        go_ret
        exact ⟨rfl, bch hb1 (bch hb2 (bch hb3 hb4))⟩

set_option maxHeartbeats 400000 in
theorem walk_periodFine (a0 : ByteArray) (w0 : a0.size ≤ maxLen) (a1 : Int) (w1 : (Lit.int .i64 a1).wf = true) (a2 : Int) (w2 : (Lit.int .i64 a2).wf = true) (W : World) :
    Calls Try.prog 10 #[.string a0, .int .i64 a1, .int .i64 a2] W fun e w' => e = .returned (.bool true) ∧ Below W.heap.size W w' := by
  by_cases hs : a0.size ≤ 24
  · rcases Classical.em (HasP (bt a0) a0.size a1) with h1 | h1
    · rcases Classical.em (HasP (bt a0) a0.size a2) with h2 | h2
      · obtain ⟨p, rfl, hp0, hp⟩ := h1
        obtain ⟨q, rfl, hq0, hq⟩ := h2
        exact walk_periodFine_yes a0 p q W hs hp0 hq0 hp hq
      · exact walk_periodFine_no a0 a1 a2 W hs true false ⟨fun _ => h1, fun _ => rfl⟩ ⟨fun h => absurd h (by decide), fun h => absurd h h2⟩ rfl
    · rcases Classical.em (HasP (bt a0) a0.size a2) with h2 | h2
      · exact walk_periodFine_no a0 a1 a2 W hs false true ⟨fun h => absurd h (by decide), fun h => absurd h h1⟩ ⟨fun _ => h2, fun _ => rfl⟩ rfl
      · exact walk_periodFine_no a0 a1 a2 W hs false false ⟨fun h => absurd h (by decide), fun h => absurd h h1⟩ ⟨fun h => absurd h (by decide), fun h => absurd h h2⟩ rfl
  · clear w1 w2
    go_enter Try.func10, Try.ntmps10
    go_wp2_with fail
    refine (periodFact_true _).mono ?_
    rintro e v1 ⟨rfl, hb1⟩
    go_wp2_with fail
    refine (periodHas_bad _ a0 a1 (by omega) w0).mono ?_
    rintro e v2 ⟨rfl, hb2⟩
    go_wp2_with fail
    refine (periodHas_bad _ a0 a2 (by omega) w0).mono ?_
    rintro e v3 ⟨rfl, hb3⟩
    go_wp2
    go_quiet (fail)
    go_wp2
    go_ret
    exact ⟨rfl, bch hb1 (bch hb2 (below_dn hb3 _))⟩
end Go.Proofs.Ytocbkapoibddaaa

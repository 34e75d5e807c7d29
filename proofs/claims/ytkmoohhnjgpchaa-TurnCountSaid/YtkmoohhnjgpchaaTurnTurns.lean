/- letterbecklaw1.TurnTurns and TurnLeast return true at all arguments: the walks. -/
import Derived.Test.YtkmoohhnjgpchaaTurnRootLaw
import Derived.Test.YtkmoohhnjgpchaaLyndon
namespace Go.Proofs.Ytkmoohhnjgpchaa
set_option linter.unusedVariables false
set_option linter.unusedSimpArgs false
open Go.RowKit

theorem turn_q (w : World) (s : ByteArray) (k : Nat) (hk : k ≤ s.size) (hs : s.size ≤ 24) :
    Calls Try.prog 18 #[.string s, .int .i64 k] w fun e w' => e = .returned (.string (turnB s k)) ∧ ∃ m, w' = w.drewN m := by
  go_enter Try.func18, Try.ntmps18
  go_wp2
  go_quiet (fail)
  go_wp2
  go_ret
  exact ⟨rfl, _, rfl⟩

theorem turn_in (w : World) (q : Nat) (s : ByteArray) (k : Nat) (hk : k ≤ s.size) (hs : s.size ≤ 24) :
    Calls Try.prog 18 #[.string s, .int .i64 k] (w.drewN q) fun e w' => e = .returned (.string (turnB s k)) ∧ ∃ m, w' = w.drewN m :=
  Calls.quiet_of (turn_q (w.drewN q) s k hk hs)

/-- A turn has the same root's length, and is the text itself just if the root divides it. -/
theorem turn_laws {s : ByteArray} (hn : 0 < s.size) {i : Nat} (hi : i < s.size) :
    rootOf (bt (turnB s i)) (turnB s i).size = rootOf (bt s) s.size ∧ (turnB s i = s ↔ i % rootOf (bt s) s.size = 0) := by
  have hz := turnB_size (s := s) (k := i) (by omega)
  have hr := rootOf_root (f := bt s) hn
  constructor
  · have h1 : IsRoot (bt (turnB s i)) s.size (rootOf (bt (turnB s i)) (turnB s i).size) := by rw [hz]; exact rootOf_root hn
    exact root_unique h1 hr fun d _ hd => (per_congr fun j hj => turnB_bt (by omega) j hj).trans (per_rot hn hd)
  · have h1 := turnB_eq (s := s) (i := 0) (j := i) (by omega) (by omega)
    rw [turnB_zero] at h1
    have h2 := req_root (f := bt s) (i := 0) (j := i) hn hr (Nat.zero_le _)
    rw [Nat.sub_zero] at h2
    rw [eq_comm, h1, h2]
    exact ⟨Nat.mod_eq_zero_of_dvd, Nat.dvd_of_mod_eq_zero⟩

set_option maxHeartbeats 1000000 in
theorem walk_turnTurns (a0 : ByteArray) (w0 : a0.size ≤ maxLen) (a1 : Int) (w1 : (Lit.int .i64 a1).wf = true) (W : World) (hM : HasMax W) :
    Calls Try.prog 8 #[.string a0, .int .i64 a1] W fun e w' => e = .returned (.bool true) ∧ Below W.heap.size W w' := by
  have hcF := hid (turnFact_true W hM)
  clear hM w1
  by_cases hs : a0.size ≤ 24
  · by_cases hi : 0 ≤ a1 ∧ a1 ≤ (a0.size : Int) - 1
    · obtain ⟨i, rfl⟩ := Int.eq_ofNat_of_zero_le hi.1
      have hin : i < a0.size := by omega
      have hn : 0 < a0.size := by omega
      have hl := turn_laws hn hin
      have hz := turnB_size (s := a0) (k := i) (by omega)
      have hkk := rootOf_le (f := bt a0) hn
      have hcA := hid (fun w => turnRoot_z w a0 hs)
      have hcB : Hid (∀ w, Calls Try.prog 17 #[.string (turnB a0 i)] w fun e w' => e = .returned (.tuple #[.int .i64 (rootOf (bt a0) a0.size), .nilIface]) ∧ Below w.heap.size w w') := fun w => by
        have := turnRoot_z w (turnB a0 i) (by omega)
        rwa [hl.1] at this
      have hcT := hid (fun w => turn_q w a0 i (by omega) hs)
      have hcU := hid (fun w q => turn_in w q a0 i (by omega) hs)
      have hl2 := hl.2
      clear hl hz
      generalize rootOf (bt a0) a0.size = k at hl2 hkk hcA hcB
      obtain ⟨x, e1, e2⟩ : ∃ x : Bool, ((turnB a0 i).toList == a0.toList) = x ∧ (((i : Int) % k) == 0) = x := by
        have hc : ((i : Int) % (k : Int)) = ((i % k : Nat) : Int) := rfl
        rcases Classical.em (turnB a0 i = a0) with h | h
        · exact ⟨true, eq_true' h, by rw [hc, hl2.1 h]; rfl⟩
        · refine ⟨false, eq_false' h, ?_⟩
          rw [beq_eq_false_iff_ne, hc]
          intro h'
          exact h (hl2.2 (by omega))
      have e3 : (x == x) = true := by simp
      have e4 : ((k : Int) == k) = true := by simp
      have hm1 : 0 ≤ ((i : Int) % (k : Int)) := by rw [show ((i : Int) % (k : Int)) = ((i % k : Nat) : Int) from rfl]; exact Int.natCast_nonneg _
      have hm2 : ((i : Int) % (k : Int)) ≤ 24 := by
        rw [show ((i : Int) % (k : Int)) = ((i % k : Nat) : Int) from rfl]
        have := Nat.mod_lt i hkk.1
        omega
      clear hl2
      go_enter Try.func8, Try.ntmps8
      go_wp2_with fail
      refine hcF.out.mono ?_
      rintro e v1 ⟨rfl, hb1⟩
      go_wp2_with fail
      refine (hcA.out _).mono ?_
      rintro e v2 ⟨rfl, hb2⟩
      go_wp2_with fail
      refine (in_true _ _ _ _ hi.1 hi.2).mono ?_
      rintro e v3 ⟨rfl, rfl⟩
      go_wp2_with fail
      refine (in_true _ _ _ _ (by omega) (by omega)).mono ?_
      rintro e v3 ⟨rfl, rfl⟩
      go_wp2_with fail
      refine (hcT.out _).mono ?_
      rintro e v3 ⟨rfl, m, rfl⟩
      go_wp2_with fail
      refine (hcB.out _).mono ?_
      rintro e v4 ⟨rfl, hb4⟩
      go_wp2_with fail
      go_quiet ((go_at_call 18; exact hcU.out _ _))
      go_wp2
      go_ret
      exact ⟨rfl, bch hb1 (bch (below_dn hb2 m) (below_dn hb4 _))⟩
    · go_enter Try.func8, Try.ntmps8
      go_wp2_with fail
      refine hcF.out.mono ?_
      rintro e v1 ⟨rfl, hb1⟩
      go_wp2_with fail
      refine (turnRoot_z _ a0 hs).mono ?_
      rintro e v2 ⟨rfl, hb2⟩
      go_wp2_with fail
      refine (in_false _ _ _ _ hi).mono ?_
      rintro e v3 ⟨rfl, rfl⟩
      clear hi
      go_wp2
      go_ret
      exact ⟨rfl, bch hb1 hb2⟩
  · go_enter Try.func8, Try.ntmps8
    go_wp2_with fail
    refine hcF.out.mono ?_
    rintro e v1 ⟨rfl, hb1⟩
    go_wp2_with fail
    refine (turnRoot_bad _ a0 (by omega) w0).mono ?_
    rintro e v2 ⟨rfl, hb2⟩
    go_wp2
    go_ret
    exact ⟨rfl, bch hb1 hb2⟩

/-- The turns of a turn. -/
theorem rot_rot {s : ByteArray} {i : Nat} (hi : i ≤ s.size) (hn : 0 < s.size) (k x : Nat) : rot (bt (turnB s i)) s.size k x = rot (bt s) s.size ((i + k) % s.size) x := by
  unfold rot
  rw [turnB_bt hi _ (Nat.mod_lt _ hn)]
  unfold rot
  congr 1
  rw [Nat.add_mod_mod, Nat.mod_add_mod]
  congr 1; omega

/-- The least turn of a turn is the least turn. -/
theorem least_turn {s : ByteArray} (hn : 0 < s.size) {i r k : Nat} (hi : i < s.size) (hr : IsLeast (bt s) s.size r) (hk : IsLeast (bt (turnB s i)) s.size k) :
    turnB (turnB s i) k = turnB s r ∧ ¬ Bef (bt (turnB s i)) (turnB s i).size (bt (turnB s r)) (turnB s r).size := by
  have hz := turnB_size (s := s) (k := i) (by omega)
  have hzr := turnB_size (s := s) (k := r) (by have := hr.1; omega)
  have hrn := hr.1
  have hkn := hk.1
  have hlt : ∀ a b, RLt (bt (turnB s i)) s.size a b ↔ RLt (bt s) s.size ((i + a) % s.size) ((i + b) % s.size) := fun a b => by
    unfold RLt
    simp only [rot_rot (by omega : i ≤ s.size) hn]
  constructor
  · refine ext_bt (by rw [turnB_size (by omega), hz, hzr]) fun x hx => ?_
    rw [turnB_size (by omega), hz] at hx
    rw [turnB_bt (by omega) x (by omega), turnB_bt (by omega) x hx, hz, rot_rot (by omega) hn]
    rcases rlt_total (bt s) s.size ((i + k) % s.size) r with h | h | h
    · exact absurd h (hr.2.1 _ (Nat.mod_lt _ hn))
    · exact h x hx
    · have e : (i + (r + (s.size - i)) % s.size) % s.size = r := by
        rw [Nat.add_mod_mod, show i + (r + (s.size - i)) = r + s.size from by omega, Nat.add_mod_right, Nat.mod_eq_of_lt hrn]
      have := (hlt ((r + (s.size - i)) % s.size) k).2 (by rw [e]; exact h)
      exact absurd this (hk.2.1 _ (Nat.mod_lt _ hn))
  · rw [hz, hzr]
    rintro (⟨l, h1, h2, h3, h4⟩ | ⟨h1, _⟩)
    · refine hr.2.1 i hi ⟨l, h1, fun x hx => ?_, ?_⟩
      · have := h3 x hx
        rwa [turnB_bt (by omega) x (by omega), turnB_bt (by omega) x (by omega)] at this
      · rwa [turnB_bt (by omega) l h1, turnB_bt (by omega) l h1] at h4
    · omega
end Go.Proofs.Ytkmoohhnjgpchaa

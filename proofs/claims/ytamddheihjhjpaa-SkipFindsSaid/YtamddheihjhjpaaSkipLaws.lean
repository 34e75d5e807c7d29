/- letterbecklaw1.SkipTimes, SkipLeap, SkipFinds return true at all arguments: the walks. -/
import Derived.Test.YtamddheihjhjpaaSkipFirst
import Derived.Test.YtamddheihjhjpaaFindNear
namespace Go.Proofs.Ytamddheihjhjpaa
set_option linter.unusedVariables false
set_option linter.unusedSimpArgs false
open Go.RowKit

attribute [local go_sem] get_bt

theorem first_one {f t : Nat → Nat} {n m : Nat} (hn : 0 < n) (h : n ≤ m) : 1 ≤ (firstOf f n t m).2 := by
  unfold firstOf
  by_cases h3 : At f n t m 0
  · rw [laid_hit h3]; exact Nat.le_refl _
  · rw [laid_miss (by omega) h3]; show 1 ≤ _ + 1; omega

theorem first_le {f t : Nat → Nat} {n m : Nat} (hn : 0 < n) : (firstOf f n t m).2 ≤ m + 1 - n := by
  have := laid_le (f := f) (t := t) (m := m) hn (m + 1) 0
  unfold firstOf; omega

theorem first_far {f t : Nat → Nat} {n m : Nat} (hn : 0 < n) (hfar : ∀ i j, i < m → j < n → t i ≠ f j) : firstOf f n t m = (-1, m / n) := by
  have := laid_far (t := t) hn hfar (m + 1) 0 (by omega)
  unfold firstOf; rw [this]; simp

set_option maxRecDepth 100000 in
set_option maxHeartbeats 1000000 in
theorem walk_skipTimes (a0 : ByteArray) (w0 : a0.size ≤ maxLen) (a1 : ByteArray) (w1 : a1.size ≤ maxLen) (W : World) :
    Calls Try.prog 3 #[.string a0, .string a1] W fun e w' => e = .returned (.bool true) ∧ Below W.heap.size W w' := by
  rcases check_cases a0 a1 w0 w1 with ⟨ht, hs, hpos⟩ | ⟨_, x, hx⟩
  · have hq1 := first_one (f := bt a1) (t := bt a0) (n := a1.size) (m := a0.size) hpos
    have hq2 := first_le (f := bt a1) (t := bt a0) (n := a1.size) (m := a0.size) hpos
    have hq3 := first_far (f := bt a1) (t := bt a0) (n := a1.size) (m := a0.size) hpos
    have hq4 : a0.size < a1.size → firstOf (bt a1) a1.size (bt a0) a0.size = (-1, 0) := fun h => laid_out (by omega)
    have Hc := hid (fun w p q h => skipFirst_ok w a0 a1 ht hs hpos p q h)
    obtain ⟨p, q, hpq⟩ : ∃ p q, firstOf (bt a1) a1.size (bt a0) a0.size = (p, q) := ⟨_, _, rfl⟩
    have Hc2 := hid (fun w => Hc.out w p q (hid hpq))
    rw [hpq] at hq1 hq2 hq3 hq4
    have Hq3 := hid hq3
    simp only at hq1 hq2
    clear hpq Hc hq3
    by_cases hlen : a0.size < a1.size
    · have h := hq4 hlen
      injection h with h1 h2
      subst h1 h2
      clear hq4 hq1 hq2 Hq3
      go_enter Try.func3, Try.ntmps3
      go_wp2_with fail
      refine (skipFact_true _).mono ?_
      rintro e v1 ⟨rfl, hb1⟩
      go_wp2_with fail
      refine (Hc2.out _).mono ?_
      rintro e v2 ⟨rfl, hb2⟩
      go_wp2
      go_ret
      exact ⟨rfl, bch hb1 hb2⟩
    · have hq1 := hq1 (by omega)
      clear hq4
      go_enter Try.func3, Try.ntmps3
      go_wp2_with fail
      refine (skipFact_true _).mono ?_
      rintro e v1 ⟨rfl, hb1⟩
      go_wp2_with fail
      refine (Hc2.out _).mono ?_
      rintro e v2 ⟨rfl, hb2⟩
      have HB := hid (bch hb1 hb2)
      clear hb1 hb2
      go_wp2_with fail
      refine (in_true _ _ _ _ (by omega) (by omega)).mono ?_
      rintro e v3 ⟨rfl, rfl⟩
      go_wp2_with fail
      go_loopw [9, 10] (fun b i wr => ∃ (k u : Nat) (x : Bool), k ≤ a0.size ∧ i = .int .i64 k ∧ b = .bool x ∧ wr = v2.drewN u ∧ Hid (x = true → ∀ i j, i < k → j < a1.size → bt a0 i ≠ bt a1 j)) (fun _ i _ => a0.size - (intOf i).toNat)
      case atStart => exact ⟨0, 0, true, Nat.zero_le _, rfl, rfl, rfl, fun _ i j h => by omega⟩
      case round =>
        obtain ⟨k, u, x, hk, rfl, rfl, rfl, hx⟩ := hrel
        by_cases hlt : k < a0.size
        · go_wp2_with fail
          go_loopw [9, 11] (fun b i wr => ∃ (l u : Nat) (y : Bool), l ≤ a1.size ∧ i = .int .i64 l ∧ b = .bool y ∧ wr = v2.drewN u ∧ Hid (y = true → (∀ i j, i < k → j < a1.size → bt a0 i ≠ bt a1 j) ∧ ∀ j, j < l → bt a0 k ≠ bt a1 j)) (fun _ i _ => a1.size - (intOf i).toNat)
          case atStart => exact ⟨0, u, x, Nat.zero_le _, rfl, rfl, rfl, hid fun h => ⟨hx.out h, fun j hj => by omega⟩⟩
          case round =>
            clear hx
            obtain ⟨l, u2, y, hl, rfl, rfl, rfl, hy⟩ := hrel
            by_cases hlt2 : l < a1.size
            · have hlt3 : (l : Int) < a1.size := by omega
              have hlt4 : (k : Int) < a0.size := by omega
              by_cases he : bt a0 k = bt a1 l
              · have e1 : ((bt a0 k : Int) != bt a1 l) = false := by simp [he]
                clear he
                cases y
                all_goals
                  go_wp2
                  go_quiet (fail)
                  go_wp2
                  go_roundw
                  case rel => exact ⟨l + 1, _, false, by omega, by go_num, rfl, rfl, hid fun h => by cases h⟩
                  case measure => simp [intOf]; omega
              · have e1 : ((bt a0 k : Int) != bt a1 l) = true := by simp; omega
                have He := hid he
                clear he
                cases y
                · go_wp2
                  go_quiet (fail)
                  go_wp2
                  go_roundw
                  case rel => exact ⟨l + 1, _, false, by omega, by go_num, rfl, rfl, hid fun h => by cases h⟩
                  case measure => simp [intOf]; omega
                · have hy' := hid (hy.out rfl)
                  clear hy
                  go_wp2
                  go_quiet (fail)
                  go_wp2
                  go_roundw
                  case rel =>
                    refine ⟨l + 1, _, true, by omega, by go_num, rfl, rfl, hid fun h => ⟨hy'.out.1, fun j hj => ?_⟩⟩
                    by_cases e : j = l
                    · rw [e]; exact He.out
                    · exact hy'.out.2 j (by omega)
                  case measure => simp [intOf]; omega
            · go_wp2
              go_roundw
              case rel =>
                refine ⟨k + 1, _, y, by omega, by go_num, rfl, rfl, hid fun h i j hi hj => ?_⟩
                by_cases e : i = k
                · rw [e]; exact (hy.out h).2 j (by omega)
                · exact (hy.out h).1 i j (by omega) hj
              case measure => simp [intOf]; omega
        · cases x
          · go_wp2
            go_ret
            exact ⟨rfl, below_dn HB.out _⟩
          · have h := Hq3.out (fun i j hi hj => hx.out rfl i j (by omega) hj)
            injection h with h1 h2
            have hn0 : ((a1.size : Int) == 0) = false := by rw [beq_eq_false_iff_ne]; omega
            have H2 := hid h2
            clear h2 Hc2
            subst h1
            go_wp2
            go_ret
            refine ⟨?_, below_dn HB.out _⟩
            have hdiv : ((q : Int) == wrap64 ((a0.size : Int) / a1.size)) = true := by
              rw [beq_iff_eq, H2.out, ← Int.natCast_ediv]
              have : a0.size / a1.size ≤ a0.size := Nat.div_le_self _ _
              clear H2
              generalize a0.size / a1.size = Z at *
              unfold wrap64
              omega
            exact congrArg (fun b => Ending.returned (Value.bool b)) hdiv
  · go_enter Try.func3, Try.ntmps3
    go_wp2_with fail
    refine (skipFact_true _).mono ?_
    rintro e v1 ⟨rfl, hb1⟩
    go_wp2_with fail
    refine (skipFirst_err _ a0 a1 x hx).mono ?_
    rintro e v2 ⟨rfl, hb2⟩
    go_wp2
    go_ret
    exact ⟨rfl, bch hb1 hb2⟩

theorem u8_nat {a : Int} (h : (Lit.int .u8 a).wf = true) : ∃ c : Nat, a = c ∧ c < 256 := by
  have h3 := h
  simp only [Lit.wf, Bool.and_eq_true, decide_eq_true_eq] at h3
  have e1 : IntKind.u8.min = 0 := by decide
  have e2 : IntKind.u8.max = 255 := by decide
  exact ⟨a.toNat, by omega, by omega⟩

set_option maxRecDepth 100000 in
set_option maxHeartbeats 1000000 in
theorem walk_skipLeap (a0 : ByteArray) (w0 : a0.size ≤ maxLen) (a1 : Int) (w1 : (Lit.int .u8 a1).wf = true) (W : World) :
    Calls Try.prog 4 #[.string a0, .int .u8 a1] W fun e w' => e = .returned (.bool true) ∧ Below W.heap.size W w' := by
  obtain ⟨c, rfl, hc⟩ := u8_nat w1
  clear w1
  rcases check_cases ByteArray.empty a0 (by decide) w0 with ⟨ht, hs, hpos⟩ | ⟨_, x, hx⟩
  · have Hc := hid (fun w => skipLeap_ok w a0 c hc hs hpos)
    have hv1 := leapV_pos (f := bt a0) (c := c) hpos
    have hv2 := leapV_le (bt a0) a0.size c
    have hv3 := leapV_inside (f := bt a0) (c := c) hpos
    have hv4 := leapV_byte (f := bt a0) (c := c) hpos
    generalize leapV (bt a0) a0.size c = V at *
    have Hv3 := hid hv3
    have Hv4 := hid hv4
    clear hv3 hv4 ht hc
    go_enter Try.func4, Try.ntmps4
    go_wp2_with fail
    refine (skipFact_true _).mono ?_
    rintro e v1 ⟨rfl, hb1⟩
    go_wp2_with fail
    refine (Hc.out _).mono ?_
    rintro e v2 ⟨rfl, hb2⟩
    have HB := hid (bch hb1 hb2)
    clear hb1 hb2
    go_wp2_with fail
    go_loopw [8, 9] (fun b i wr => ∃ (k u : Nat) (x : Bool), k + 1 ≤ a0.size ∧ i = .int .i64 k ∧ b = .bool x ∧ wr = v2.drewN u ∧ Hid (x = true ↔ ∃ j, j < k ∧ bt a0 j = c)) (fun _ i _ => a0.size - (intOf i).toNat)
    case atStart => exact ⟨0, 0, false, by omega, rfl, rfl, rfl, hid ⟨fun h => absurd h (by decide), fun ⟨j, h, _⟩ => absurd h (by omega)⟩⟩
    case round =>
      obtain ⟨k, u, x, hk, rfl, rfl, rfl, hx⟩ := hrel
      by_cases hlt : k + 1 < a0.size
      · have hlt' : (k : Int) + 1 < a0.size := by omega
        have hlt2 : k < a0.size := by omega
        have hlt3 : (k : Int) < a0.size := by omega
        by_cases he : bt a0 k = c
        · have e1 : ((bt a0 k : Int) == (c : Int)) = true := by rw [beq_iff_eq, he]
          have He := hid he
          clear he
          cases x
          all_goals
            go_wp2
            go_roundw
            case rel => exact ⟨k + 1, _, true, by omega, by go_num, rfl, rfl, hid ⟨fun _ => ⟨k, by omega, He.out⟩, fun _ => rfl⟩⟩
            case measure => simp [intOf]; omega
        · have e1 : ((bt a0 k : Int) == (c : Int)) = false := by rw [beq_eq_false_iff_ne]; omega
          have He := hid he
          clear he
          have Hx2 : Hid (x = true ↔ ∃ j, j < k + 1 ∧ bt a0 j = c) := by
            have h0 := hx.out
            show x = true ↔ _
            rw [h0]
            constructor
            · rintro ⟨j, h, h2⟩; exact ⟨j, by omega, h2⟩
            · rintro ⟨j, h, h2⟩
              by_cases e : j = k
              · exact absurd (e ▸ h2) He.out
              · exact ⟨j, by omega, h2⟩
          clear hx
          cases hxe : x
          all_goals
            have Hx3 := hid hxe
            clear hxe
            go_wp2
            go_roundw
            case rel => exact ⟨k + 1, _, x, by omega, by go_num, by rw [Hx3.out], rfl, Hx2⟩
            case measure => simp [intOf]; omega
      · have hk1 : k + 1 = a0.size := by omega
        have hlt' : ¬ (k : Int) + 1 < a0.size := by omega
        have hin : x = true ↔ ¬ V = a0.size := by
          rw [hx.out, Hv3.out, Classical.not_not]
          exact ⟨fun ⟨j, h1, h2⟩ => ⟨j, by omega, h2⟩, fun ⟨j, h1, h2⟩ => ⟨j, by omega, h2⟩⟩
        cases x
        · have hV : V = a0.size := by
            rcases Nat.lt_or_ge V a0.size with h | h
            · exact absurd (hin.2 (by omega)) (by decide)
            · omega
          have e1 : ((V : Int) == a0.size) = true := by rw [beq_iff_eq]; omega
          clear hin hV hk1
          go_wp2_with fail
          refine (in_true _ _ _ _ (by omega) (by omega)).mono ?_
          rintro e v3 ⟨rfl, rfl⟩
          go_wp2
          go_ret
          exact ⟨rfl, below_dn HB.out _⟩
        · have hV := hin.1 rfl
          have e1 : ((V : Int) == a0.size) = false := by rw [beq_eq_false_iff_ne]; omega
          have h4 := Hv4.out hV
          obtain ⟨P, hP, hPn⟩ : ∃ P : Nat, (a0.size : Int) - 1 - V = P ∧ P = a0.size - 1 - V := ⟨a0.size - 1 - V, by omega, rfl⟩
          rw [← hPn] at h4
          have hP2 : P < a0.size := by omega
          have e2 : ((bt a0 P : Int) == (c : Int)) = true := by rw [beq_iff_eq, h4]
          clear hin hV hk1 h4 hPn
          go_wp2_with fail
          refine (in_true _ _ _ _ (by omega) (by omega)).mono ?_
          rintro e v3 ⟨rfl, rfl⟩
          go_wp2
          go_ret
          exact ⟨rfl, below_dn HB.out _⟩
  · go_enter Try.func4, Try.ntmps4
    go_wp2_with fail
    refine (skipFact_true _).mono ?_
    rintro e v1 ⟨rfl, hb1⟩
    go_wp2_with fail
    refine (skipLeap_err _ a0 c x hx).mono ?_
    rintro e v2 ⟨rfl, hb2⟩
    go_wp2
    go_ret
    exact ⟨rfl, bch hb1 hb2⟩

/-- What the leaps find is the first place of all. -/
theorem first_pos {f t : Nat → Nat} {n m : Nat} (hn : 0 < n) : (posI f n t m = [] ∧ (firstOf f n t m).1 = -1) ∨ (∃ x r, posI f n t m = x :: r ∧ (firstOf f n t m).1 = x ∧ 1 ≤ (firstOf f n t m).2) := by
  rcases laid_first (f := f) (t := t) (m := m) hn (m + 1) 0 (by omega) (fun p h => by omega) with ⟨h1, h2⟩ | ⟨p, h1, h2, h3, h4⟩
  · refine .inl ⟨?_, h1⟩
    have : pos f n t m = [] := by
      rw [List.eq_nil_iff_forall_not_mem]
      intro p hp
      exact h2 p ((mem_pos hn).1 hp)
    unfold posI; rw [this]; rfl
  · refine .inr ?_
    have hm := (mem_pos hn).2 h2
    cases e : pos f n t m with
    | nil => rw [e] at hm; cases hm
    | cons a r =>
      have ha : At f n t m a := (mem_pos hn).1 (by rw [e]; simp)
      have hle : p ≤ a := by
        rcases Nat.lt_or_ge a p with h | h
        · exact absurd ha (h3 a h)
        · exact h
      have hle2 : a ≤ p := by
        rw [e] at hm
        rcases List.mem_cons.1 hm with h | h
        · omega
        · have := pos_pair f n t m
          rw [e] at this
          have := (List.pairwise_cons.1 this).1 p h
          omega
      refine ⟨(a : Int), r.map fun p : Nat => (p : Int), ?_, ?_, h4⟩
      · unfold posI; rw [e]; rfl
      · show (laid f n t m (m + 1) 0).1 = a
        rw [h1]; omega

set_option maxRecDepth 100000 in
set_option maxHeartbeats 1000000 in
theorem walk_skipFinds (a0 : ByteArray) (w0 : a0.size ≤ maxLen) (a1 : ByteArray) (w1 : a1.size ≤ maxLen) (W : World) :
    Calls Try.prog 5 #[.string a0, .string a1] W fun e w' => e = .returned (.bool true) ∧ Below W.heap.size W w' := by
  rcases check_cases a0 a1 w0 w1 with ⟨ht, hs, hpos⟩ | ⟨_, x, hx⟩
  · have hf := first_pos (f := bt a1) (t := bt a0) (n := a1.size) (m := a0.size) hpos
    have Hc := hid (fun w p q h => skipFirst_ok w a0 a1 ht hs hpos p q h)
    obtain ⟨p, q, hpq⟩ : ∃ p q, firstOf (bt a1) a1.size (bt a0) a0.size = (p, q) := ⟨_, _, rfl⟩
    have Hc2 := hid (fun w => Hc.out w p q (hid hpq))
    rw [hpq] at hf
    have Hd := hid (fun w => findAll_ok w a0 a1 ht hs hpos)
    have hle := posI_len (bt a1) a1.size (bt a0) a0.size
    have hle2 := pos_len (bt a1) a1.size (bt a0) a0.size
    rw [← hle] at hle2
    generalize posI (bt a1) a1.size (bt a0) a0.size = L at *
    clear hpq Hc hle
    rcases hf with ⟨rfl, h1⟩ | ⟨x, r, rfl, h1, h2⟩
    · simp only at h1
      subst h1
      go_enter Try.func5, Try.ntmps5
      go_wp2_with fail
      refine (skipFact_true _).mono ?_
      rintro e v1 ⟨rfl, hb1⟩
      go_wp2_with fail
      refine (Hc2.out _).mono ?_
      rintro e v2 ⟨rfl, hb2⟩
      go_wp2_with fail
      refine (Hd.out _).mono ?_
      rintro e v3 ⟨A, c, rfl, ho, hb3⟩
      clear ho
      go_wp2
      go_ret
      exact ⟨rfl, bch (bch hb1 hb2) hb3⟩
    · simp only at h1 h2
      subst h1
      have hn0 : ((((p :: r).length : Nat) : Int) == 0) = false := by rw [beq_eq_false_iff_ne]; simp; omega
      obtain ⟨N, hN⟩ : ∃ N, (p :: r).length = N := ⟨_, rfl⟩
      have hN1 : 0 < N := by rw [← hN]; simp
      have HN := hid hN
      rw [hN] at hn0 hle2
      clear hN
      go_enter Try.func5, Try.ntmps5
      go_wp2_with fail
      refine (skipFact_true _).mono ?_
      rintro e v1 ⟨rfl, hb1⟩
      go_wp2_with fail
      refine (Hc2.out _).mono ?_
      rintro e v2 ⟨rfl, hb2⟩
      go_wp2_with fail
      refine (Hd.out _).mono ?_
      rintro e v3 ⟨A, c, rfl, ho, hb3⟩
      obtain ⟨g, o, hA, hg, hc⟩ := ho.sl (by simp [ints])
      have q1 := hc 0 _ (ints_get' (l := p :: r) (i := 0) rfl)
      rw [Nat.add_zero] at q1
      have hN2 : (0 : Int) < (N : Int) := by omega
      have hq1 : decide (1 ≤ (q : Int)) = true := by simp; omega
      rw [HN.out] at ho ⊢
      subst hA
      clear ho hc hg
      go_wp2
      go_ret
      exact ⟨rfl, bch (bch hb1 hb2) hb3⟩
  · go_enter Try.func5, Try.ntmps5
    go_wp2_with fail
    refine (skipFact_true _).mono ?_
    rintro e v1 ⟨rfl, hb1⟩
    go_wp2_with fail
    refine (skipFirst_err _ a0 a1 x hx).mono ?_
    rintro e v2 ⟨rfl, hb2⟩
    go_wp2_with fail
    refine (findAll_err _ a0 a1 x hx).mono ?_
    rintro e v3 ⟨rfl, hb3⟩
    go_wp2
    go_ret
    exact ⟨rfl, bch (bch hb1 hb2) hb3⟩
end Go.Proofs.Ytamddheihjhjpaa

/- letterbecklaw1.FindLonger returns true at all arguments: the walk. -/
import Derived.Test.YtamddheihjhjpaaFindNear
import Derived.Test.YtamddheihjhjpaaPartsPlain
namespace Go.Proofs.Ytamddheihjhjpaa
set_option linter.unusedVariables false
set_option linter.unusedSimpArgs false
open Go.RowKit

theorem posI_empty (f t : Nat → Nat) (n : Nat) (m : Nat) : (posI f n t m).length ≤ m := by rw [posI_len]; exact pos_len _ _ _ _

theorem pairs_le {A : Int} {X Y : List Int} (h : ∀ x, pairsAt A x Y Y.length ≤ 24) : ∀ j, pairs A X Y j ≤ 24 * j := by
  intro j
  induction j with
  | zero => simp [pairs]
  | succ j ih =>
    by_cases hj : j < X.length
    · rw [pairs_step (List.getElem?_eq_getElem hj)]
      have := h X[j]
      omega
    · have e : pairs A X Y (j + 1) = pairs A X Y j := by unfold pairs; rw [List.take_of_length_le (by omega), List.take_of_length_le (by omega)]
      omega

set_option maxRecDepth 100000 in
set_option maxHeartbeats 2000000 in
theorem walk_findLonger (a0 : ByteArray) (w0 : a0.size ≤ maxLen) (z0 : a0.size ≤ 140737488355328) (a1 : ByteArray) (w1 : a1.size ≤ maxLen) (z1 : a1.size ≤ 140737488355328) (a2 : ByteArray) (w2 : a2.size ≤ maxLen) (z2 : a2.size ≤ 140737488355328) (W : World) :
    Calls Try.prog 9 #[.string a0, .string a1, .string a2] W fun e w' => e = .returned (.bool true) ∧ Below W.heap.size W w' := by
  have hsum : (a1 ++ a2).size = a1.size + a2.size := ByteArray.size_append
  have hsum2 : (a1 ++ a2).size ≤ maxLen := by unfold maxLen; omega
  have hcat : a1.size + a2.size ≤ 9223372036854775807 := by omega
  rcases check_cases a0 (a1 ++ a2) w0 hsum2 with ⟨ht, hs, hpos⟩ | ⟨_, x, hx⟩
  · have Hc0 := hid (fun w => findAll_ok w a0 (a1 ++ a2) ht hs hpos)
    rw [hsum] at hs hpos Hc0
    have hl0 := posI_empty (bt (a1 ++ a2)) (bt a0) (a1.size + a2.size) a0.size
    by_cases he : a1.size = 0 ∨ a2.size = 0
    · have hemp : (a1.toList.isEmpty = true) ∨ (a1.toList.isEmpty = false ∧ a2.toList.isEmpty = true) := by
        by_cases h1 : a1.size = 0
        · exact .inl (emp_true h1)
        · exact .inr ⟨emp_false (by omega), emp_true (by omega)⟩
      clear he hsum hsum2
      generalize posI (bt (a1 ++ a2)) (a1.size + a2.size) (bt a0) a0.size = L at *
      rcases hemp with e1 | ⟨e1, e2⟩
      all_goals
        go_enter Try.func9, Try.ntmps9
        go_wp2_with fail
        refine (findFact_true _).mono ?_
        rintro e v1 ⟨rfl, hb1⟩
        go_wp2_with fail
        refine (Hc0.out _).mono ?_
        rintro e v2 ⟨A0, c0, rfl, ho0, hb2⟩
        go_wp2
        go_ret
        exact ⟨rfl, bch hb1 hb2⟩
    · have e1 : a1.toList.isEmpty = false := emp_false (by omega)
      have e2 : a2.toList.isEmpty = false := emp_false (by omega)
      have hp1 : 0 < a1.size := by omega
      have hp2 : 0 < a2.size := by omega
      have hl1 := posI_empty (bt a1) (bt a0) a1.size a0.size
      have hl2 := posI_empty (bt a2) (bt a0) a2.size a0.size
      obtain ⟨hj1, hj2, hj3⟩ := pairs_join (f := bt a1) (g := bt a2) (w := bt (a1 ++ a2)) (t := bt a0) (m := a0.size) hp1 hp2 (fun j hj => by rw [bt_append, if_pos hj]) (fun j hj => by rw [bt_append, if_neg (by omega)]; congr 1; omega)
      have hb1 : ∀ (j : Nat) (x : Int), (posI (bt a1) a1.size (bt a0) a0.size)[j]? = some x → 0 ≤ x ∧ x ≤ 24 := fun j x h => posI_bd hp1 ht h
      have hb2 : ∀ (j : Nat) (x : Int), (posI (bt a2) a2.size (bt a0) a0.size)[j]? = some x → 0 ≤ x ∧ x ≤ 24 := fun j x h => posI_bd hp2 ht h
      have Hb1 := hid hb1
      have Hb2 := hid hb2
      have Hj1 := hid hj1
      have Hc1 := hid (fun w => findAll_ok w a0 a1 ht (by omega) hp1)
      have Hc2 := hid (fun w => findAll_ok w a0 a2 ht (by omega) hp2)
      clear hb1 hb2 hj1 he hsum hsum2
      generalize posI (bt (a1 ++ a2)) (a1.size + a2.size) (bt a0) a0.size = L at *
      generalize posI (bt a1) a1.size (bt a0) a0.size = X at *
      generalize posI (bt a2) a2.size (bt a0) a0.size = Y at *
      have Hpa := hid (fun (x : Int) => Nat.le_trans (pairsAt_le (a1.size : Int) x Y Y.length) (Nat.le_trans hl2 ht))
      have Hps := hid (pairs_le (X := X) Hpa.out)
      have Hpk := hid (fun (x : Int) k => Nat.le_trans (pairsAt_le (a1.size : Int) x Y k) (Nat.le_trans hl2 ht))
      go_enter Try.func9, Try.ntmps9
      go_wp2_with fail
      refine (findFact_true _).mono ?_
      rintro e v1 ⟨rfl, hb1⟩
      go_wp2_with fail
      refine (Hc0.out _).mono ?_
      rintro e v2 ⟨A0, c0, rfl, ho0, hb2⟩
      go_wp2_with fail
      refine (Hc1.out _).mono ?_
      rintro e v3 ⟨A1, c1, rfl, ho1, hb3⟩
      go_wp2_with fail
      refine (Hc2.out _).mono ?_
      rintro e v4 ⟨A2, c2, rfl, ho2, hb4⟩
      go_wp2_with fail
      have hsX : Sl v4 v4.heap.size A1 (ints X) := (ho1.below hb4).slB _ (Nat.le_refl _)
      have hsY : Sl v4 v4.heap.size A2 (ints Y) := ho2.slB _ (Nat.le_refl _)
      have HB := hid (bch (bch (bch hb1 hb2) hb3) hb4)
      clear hb1 hb2 hb3 hb4 ho0 ho1 ho2
      go_loopw [14, 15] (fun b i wr => ∃ j c m : Nat, j ≤ X.length ∧ c ≤ 24 * j ∧ i = .int .i64 j ∧ b = .int .i64 c ∧ wr = v4.drewN m ∧ Hid (pairs a1.size X Y j = c)) (fun _ i _ => X.length - (intOf i).toNat)
      case atStart => exact ⟨0, 0, 0, Nat.zero_le _, by omega, rfl, rfl, rfl, rfl⟩
      case round =>
        obtain ⟨j, c, m, hj, hc24, rfl, rfl, rfl, hcj⟩ := hrel
        by_cases hlt : j < X.length
        · obtain ⟨g, o, hA, hg, hc⟩ := hsX (ints_ne (by omega))
          subst hA
          obtain ⟨x, hx⟩ : ∃ x, X[j]? = some x := ⟨_, List.getElem?_eq_getElem hlt⟩
          have q1 := hc _ _ (ints_get' hx)
          have hxb := Hb1.out _ _ hx
          have Hst := hid (pairs_step (A := (a1.size : Int)) (Y := Y) hx)
          clear hc hx
          go_wp2_with fail
          go_loopw [14, 16] (fun b i wr => ∃ k d m : Nat, k ≤ Y.length ∧ d ≤ 24 ∧ i = .int .i64 k ∧ b = .int .i64 ((c + d : Nat) : Int) ∧ wr = v4.drewN m ∧ Hid (pairsAt a1.size x Y k = d)) (fun _ i _ => Y.length - (intOf i).toNat)
          case atStart => exact ⟨0, 0, m, Nat.zero_le _, by omega, rfl, rfl, rfl, hid (by simp [pairsAt])⟩
          case round =>
            obtain ⟨k, d, m2, hk, hd, rfl, rfl, rfl, hdk⟩ := hrel
            by_cases hlt2 : k < Y.length
            · obtain ⟨g', o', hA', hg', hc'⟩ := hsY (ints_ne (by omega))
              subst hA'
              obtain ⟨y, hy⟩ : ∃ y, Y[k]? = some y := ⟨_, List.getElem?_eq_getElem hlt2⟩
              have q2 := hc' _ _ (ints_get' hy)
              have hyb := Hb2.out _ _ hy
              have hst2 := pairsAt_step (A := (a1.size : Int)) (x := x) hy
              rw [hdk.out] at hst2
              have hd24 := Hpk.out x (k + 1)
              clear hc' hy
              by_cases he : y = x + a1.size
              · have e3 : (y == x + (a1.size : Int)) = true := by rw [beq_iff_eq]; exact he
                rw [if_pos he] at hst2
                rw [hst2] at hd24
                have Hst2 := hid hst2
                clear hst2 he
                go_wp2
                go_quiet (fail)
                go_wp2
                go_roundw
                case rel => exact ⟨k + 1, d + 1, _, by omega, by omega, by go_num, by go_num, rfl, Hst2⟩
                case measure => simp [intOf]; omega
              · have e3 : (y == x + (a1.size : Int)) = false := by rw [beq_eq_false_iff_ne]; exact he
                rw [if_neg he] at hst2
                have Hst2 := hid hst2
                clear hst2 he
                go_wp2
                go_quiet (fail)
                go_wp2
                go_roundw
                case rel => exact ⟨k + 1, d, _, by omega, by omega, by go_num, by go_num, rfl, Hst2⟩
                case measure => simp [intOf]; omega
            · have hkY : k = Y.length := by omega
              have Hd := hid hdk.out
              rw [hkY] at Hd
              clear hkY
              go_wp2
              go_roundw
              case rel => exact ⟨j + 1, c + d, _, by omega, by omega, by go_num, by go_num, rfl, hid (by rw [Hst.out, hcj.out, Hd.out])⟩
              case measure => simp [intOf]; omega
        · have hjX : j = X.length := by omega
          have hfin : c = L.length := by rw [← hcj.out, hjX]; exact Hj1.out
          clear hjX
          subst hfin
          go_wp2
          go_ret
          exact ⟨rfl, below_dn HB.out _⟩
  · go_enter Try.func9, Try.ntmps9
    go_wp2_with fail
    refine (findFact_true _).mono ?_
    rintro e v1 ⟨rfl, hb1⟩
    go_wp2_with fail
    refine (findAll_err _ a0 (a1 ++ a2) x hx).mono ?_
    rintro e v2 ⟨rfl, hb2⟩
    go_wp2
    go_ret
    exact ⟨rfl, bch hb1 hb2⟩
end Go.Proofs.Ytamddheihjhjpaa

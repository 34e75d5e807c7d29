/- letterbecklaw1.FindNear returns true at all arguments: the walk. -/
import Derived.Test.YtamddheihjhjpaaFindApart
import Derived.Test.YtamddheihjhjpaaPeriodRef
namespace Go.Proofs.Ytamddheihjhjpaa
set_option linter.unusedVariables false
set_option linter.unusedSimpArgs false
open Go.RowKit

/-- Two neighbours among the places. -/
theorem posI_near {f t : Nat → Nat} {n m j : Nat} {x y : Int} (hn : 0 < n) (hx : (posI f n t m)[j]? = some x) (hy : (posI f n t m)[j + 1]? = some y) : x < y ∧ (y - x ≤ n → Per f n (y - x).toNat) := by
  obtain ⟨h1, h2⟩ := List.getElem?_eq_some_iff.1 hx
  obtain ⟨h3, h4⟩ := List.getElem?_eq_some_iff.1 hy
  have hlt := List.pairwise_iff_getElem.1 (posI_pair f n t m) j (j + 1) h1 h3 (by omega)
  rw [h2, h4] at hlt
  obtain ⟨p, rfl, hp1, hp2⟩ := posI_get hn hx
  obtain ⟨q, rfl, hq1, hq2⟩ := posI_get hn hy
  refine ⟨hlt, fun hle => ⟨by omega, fun i hi => ?_⟩⟩
  have e : ((q : Int) - p).toNat = q - p := by omega
  rw [e] at hi ⊢
  rw [hq2 i (by omega), hp2 (i + (q - p)) (by omega)]
  congr 1; omega

/-- The error of find.Check, if there is one. -/
theorem check_cases (t s : ByteArray) (ht : t.size ≤ maxLen) (hs : s.size ≤ maxLen) : (t.size ≤ 24 ∧ s.size ≤ 24 ∧ 0 < s.size) ∨ ((24 < t.size ∨ 24 < s.size ∨ s.size = 0) ∧ ∃ x : Int, Hid (∀ w, Calls Try.prog 19 #[.string t, .string s] w fun e w' => e = .returned (errv x) ∧ Below w.heap.size w w')) := by
  by_cases h1 : 24 < t.size ∨ 24 < s.size
  · exact .inr ⟨by omega, 4, fun w => check_bad w t s h1 ht hs⟩
  · by_cases h2 : s.size = 0
    · exact .inr ⟨by omega, 5, fun w => check_none w t s (by omega) h2⟩
    · exact .inl (by omega)

set_option maxRecDepth 100000 in
set_option maxHeartbeats 1000000 in
theorem walk_findNear (a0 : ByteArray) (w0 : a0.size ≤ maxLen) (a1 : ByteArray) (w1 : a1.size ≤ maxLen) (W : World) :
    Calls Try.prog 6 #[.string a0, .string a1] W fun e w' => e = .returned (.bool true) ∧ Below W.heap.size W w' := by
  rcases check_cases a0 a1 w0 w1 with ⟨ht, hs, hpos⟩ | ⟨_, x, hx⟩
  · have hlen := pos_len (bt a1) a1.size (bt a0) a0.size
    have hlen' := posI_len (bt a1) a1.size (bt a0) a0.size
    have hbd0 : ∀ (j : Nat) (x : Int), (posI (bt a1) a1.size (bt a0) a0.size)[j]? = some x → 0 ≤ x ∧ x ≤ 24 := fun j x h => posI_bd hpos ht h
    have hnear : ∀ (j : Nat) (x y : Int), (posI (bt a1) a1.size (bt a0) a0.size)[j]? = some x → (posI (bt a1) a1.size (bt a0) a0.size)[j + 1]? = some y → x < y ∧ (y - x ≤ a1.size → Per (bt a1) a1.size (y - x).toNat) := fun j x y h1 h2 => posI_near hpos h1 h2
    have Hbd := hid hbd0
    have Hnear := hid hnear
    have Hcall := hid (fun w => findAll_ok w a0 a1 ht hs hpos)
    clear hbd0 hnear
    generalize posI (bt a1) a1.size (bt a0) a0.size = L at *
    rw [← hlen'] at hlen
    clear hlen'
    go_enter Try.func6, Try.ntmps6
    go_wp2_with fail
    refine (findFact_true _).mono ?_
    rintro e v1 ⟨rfl, hb1⟩
    go_wp2_with fail
    refine (Hcall.out _).mono ?_
    rintro e v2 ⟨A, c, rfl, ho, hb2⟩
    go_wp2_with fail
    have hsl := ho.sl
    have HB := bch hb1 hb2
    clear hb1 hb2 ho
    go_loopw [8] (fun i wr => ∃ j m : Nat, j ≤ L.length ∧ i = .int .i64 ((j : Int) + 1) ∧ wr = v2.drewN m) (fun i _ => (L.length + 1 : Nat) - (intOf i).toNat)
    case atStart => exact ⟨0, 0, by omega, rfl, rfl⟩
    case round =>
      obtain ⟨j, m, hj, rfl, rfl⟩ := hrel
      by_cases hlt : j + 1 < L.length
      · have hlt' : (j : Int) + 1 < L.length := by omega
        obtain ⟨g, o, hA, hg, hc⟩ := hsl (ints_ne (by omega))
        subst hA
        obtain ⟨x, hx⟩ : ∃ x, L[j]? = some x := ⟨_, List.getElem?_eq_getElem (by omega)⟩
        obtain ⟨y, hy⟩ : ∃ y, L[j + 1]? = some y := ⟨_, List.getElem?_eq_getElem (by omega)⟩
        have q1 := hc _ _ (ints_get' hx)
        have q2 := hc _ _ (ints_get' hy)
        have hxb := Hbd.out _ _ hx
        have hyb := Hbd.out _ _ hy
        obtain ⟨hxy, hper⟩ := Hnear.out _ _ _ hx hy
        clear hc hx hy
        have e1 : decide (y - x < 1) = false := by simp; omega
        by_cases hle : y - x ≤ a1.size
        · obtain ⟨p, hp⟩ : ∃ p : Nat, y - x = p := ⟨(y - x).toNat, by omega⟩
          have hP := hper hle
          rw [hp] at hP
          have hp2 : 0 < p := by omega
          have hp3 : p ≤ a1.size := by omega
          have HP := hid hP
          clear hP hper
          have hcall := hid (fun w => periodRef_in w a1 p (by omega) hp2 hp3 true ⟨fun _ => HP.out, fun _ => rfl⟩)
          go_wp2
          go_quiet (fail)
          go_wp2_with fail
          refine (hcall.out _).mono ?_
          rintro e v3 ⟨rfl, m3, rfl⟩
          go_wp2
          go_roundw
          case rel => exact ⟨j + 1, _, by omega, by go_num, rfl⟩
          case measure => simp [intOf]; omega
        · clear hper
          have e2 : decide (y - x ≤ (a1.size : Int)) = false := by simp; omega
          go_wp2
          go_quiet (fail)
          go_wp2
          go_roundw
          case rel => exact ⟨j + 1, _, by omega, by go_num, rfl⟩
          case measure => simp [intOf]; omega
      · have hlt' : ¬ (j : Int) + 1 < L.length := by omega
        go_wp2
        go_ret
        exact ⟨rfl, below_dn HB _⟩
  · go_enter Try.func6, Try.ntmps6
    go_wp2_with fail
    refine (findFact_true _).mono ?_
    rintro e v1 ⟨rfl, hb1⟩
    go_wp2_with fail
    refine (findAll_err _ a0 a1 x hx).mono ?_
    rintro e v2 ⟨rfl, hb2⟩
    go_wp2
    go_ret
    exact ⟨rfl, bch hb1 hb2⟩
end Go.Proofs.Ytamddheihjhjpaa

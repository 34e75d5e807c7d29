/- letterbecklaw1.ZetaBoth returns true at every text: the walk. -/
import Derived.Test.YtocbkapoibddaaaZetaFact
namespace Go.Proofs.Ytocbkapoibddaaa
set_option linter.unusedVariables false
set_option linter.unusedSimpArgs false
open Go.RowKit

/-- What the inner loop knows after the places below k. -/
def BRel (f : Nat → Nat) (i k b : Nat) : Prop := (b = 0 ∧ ∀ k', 1 ≤ k' → k' < k → ¬ Bdr f (i + 1) (i + 1 - k')) ∨ (0 < b ∧ b = fail f (i + 1))

theorem brel_start (f : Nat → Nat) (i : Nat) : BRel f i 1 0 := .inl ⟨rfl, fun k' h1 h2 => by omega⟩

theorem zf_far {f : Nat → Nat} {n i k : Nat} (hi : i < n) (h1 : 1 ≤ k) (h2 : k ≤ i) : i + 1 - k ≤ zf f n k ↔ Bdr f (i + 1) (i + 1 - k) := by
  constructor
  · intro h
    refine ⟨by omega, fun j hj => ?_⟩
    rw [zf_same f n k j (by omega)]
    congr 1; omega
  · rintro ⟨h3, h4⟩
    rcases Nat.lt_or_ge (zf f n k) (i + 1 - k) with h | h
    · have := zf_stop f n k (by omega)
      have h5 := h4 (zf f n k) h
      rw [show i + 1 - (i + 1 - k) + zf f n k = k + zf f n k from by omega] at h5
      exact absurd h5 this
    · exact h

theorem brel_hit {f : Nat → Nat} {n i k : Nat} (hi : i < n) (h1 : 1 ≤ k) (h2 : k ≤ i) (h : BRel f i k 0) (hz : i + 1 - k ≤ zf f n k) : BRel f i (k + 1) (i + 1 - k) := by
  have hb := (zf_far hi h1 h2).1 hz
  refine .inr ⟨by omega, (fail_eq hb fun r hr => ?_).symm⟩
  rcases h with ⟨_, h⟩ | ⟨h, _⟩
  · rcases Nat.lt_or_ge (i + 1 - k) r with h3 | h3
    · have h4 := hr.1
      have := h (i + 1 - r) (by omega) (by omega)
      rw [show i + 1 - (i + 1 - r) = r from by omega] at this
      exact absurd hr this
    · exact h3
  · omega

theorem brel_miss {f : Nat → Nat} {n i k : Nat} (hi : i < n) (h1 : 1 ≤ k) (h2 : k ≤ i) (h : BRel f i k 0) (hz : ¬ i + 1 - k ≤ zf f n k) : BRel f i (k + 1) 0 := by
  rcases h with ⟨_, h⟩ | ⟨h, _⟩
  · refine .inl ⟨rfl, fun k' h3 h4 => ?_⟩
    by_cases e : k' = k
    · rw [e]; exact fun hb => hz ((zf_far hi h1 h2).2 hb)
    · exact h k' h3 (by omega)
  · omega

theorem brel_pos {f : Nat → Nat} {i k b : Nat} (hb : 0 < b) (h : BRel f i k b) : BRel f i (k + 1) b := by
  rcases h with ⟨h, _⟩ | h
  · omega
  · exact .inr h

theorem brel_end {f : Nat → Nat} {i b : Nat} (h : BRel f i (i + 1) b) : b = fail f (i + 1) := by
  rcases h with ⟨h1, h2⟩ | ⟨_, h⟩
  · rw [h1]
    rcases Nat.eq_zero_or_pos (fail f (i + 1)) with h3 | h3
    · exact h3.symm
    · have hb := fail_bdr (f := f) (n := i + 1) (by omega)
      have h4 := hb.1
      have := h2 (i + 1 - fail f (i + 1)) (by omega) (by omega)
      rw [show i + 1 - (i + 1 - fail f (i + 1)) = fail f (i + 1) from by omega] at this
      exact absurd hb this
  · exact h

set_option maxHeartbeats 800000 in
set_option maxRecDepth 100000 in
theorem walk_zetaBoth (a0 : ByteArray) (w0 : a0.size ≤ maxLen) (W : World) :
    Calls Try.prog 7 #[.string a0] W fun e w' => e = .returned (.bool true) ∧ Below W.heap.size W w' := by
  by_cases hs : a0.size ≤ 24
  · have e0 : ((a0.size : Int) != a0.size) = false := by simp
    go_enter Try.func7, Try.ntmps7
    go_wp2_with fail
    refine (zetaFact_true _).mono ?_
    rintro e w1 ⟨rfl, hb1⟩
    go_wp2_with fail
    refine (zetaOf_ok _ a0 hs).mono ?_
    rintro e w2 ⟨A2, c2, rfl, ho2, hb2⟩
    go_wp2_with fail
    refine (edgesOf_ok _ a0 hs).mono ?_
    rintro e w3 ⟨A3, c3, rfl, ho3, hb3⟩
    have hB := hb3.size
    have hs2 := (ho2.below hb3).slB w3.heap.size (Nat.le_refl _)
    have hs3 := ho3.slB w3.heap.size (Nat.le_refl _)
    clear ho2 ho3
    go_wp2_with fail
    go_loop [8] (fun i => ∃ k : Nat, k ≤ a0.size ∧ i = .int .i64 k) (fun i => a0.size - (intOf i).toNat)
    case atStart => exact ⟨0, Nat.zero_le _, rfl⟩
    case round =>
      obtain ⟨i, hi, rfl⟩ := hrel
      by_cases hlt : i < a0.size
      · obtain ⟨g3, o3, hA3, hg3, hc3⟩ := hs3 (ints_ne (by rw [edgesOf_len]; omega))
        have q3 := hc3 i _ (ints_get' (edgesOf_get (bt a0) a0.size (i + 1) (by omega) (by omega)))
        have hfl := fail_lt (f := bt a0) (n := i + 1) (by omega)
        obtain ⟨g2, o2, hA2, hg2, hc2⟩ := hs2 (ints_ne (by rw [zOf_len]; omega))
        subst hA3 hA2
        have Hc2 := hid hc2
        clear hc3 hc2
        go_wp2_with fail
        go_loop [9, 10] (fun b k => ∃ x y : Nat, x ≤ 25 ∧ 1 ≤ y ∧ y ≤ i + 1 ∧ b = .int .i64 x ∧ k = .int .i64 y ∧ Hid (BRel (bt a0) i y x)) (fun _ k => i + 1 - (intOf k).toNat)
        case atStart => exact ⟨0, 1, by omega, by omega, by omega, rfl, rfl, brel_start _ _⟩
        case round =>
          obtain ⟨x, y, hx, hy1, hy2, rfl, rfl, hbr⟩ := hrel
          by_cases hyi : y ≤ i
          · have q2 := Hc2.out y _ (ints_get' (zOf_get (bt a0) a0.size y (by omega)))
            have hzl := zf_le (bt a0) a0.size y
            have hyn : y < a0.size := by omega
            by_cases hz : i + 1 - y ≤ zf (bt a0) a0.size y
            · by_cases hx0 : x = 0
              · have hnx := hid (brel_hit hlt hy1 hyi (hx0 ▸ hbr.out) hz)
                have e1 : ((x : Int) == 0) = true := by simp [hx0]
                have hz' : (i : Int) - y + 1 ≤ zf (bt a0) a0.size y := by omega
                clear hx0 hz
                go_wp2
                go_round
                case rel => exact ⟨i + 1 - y, y + 1, by omega, by omega, by omega, by congr 1; omega, by go_num, hnx⟩
                case measure => simp [intOf]; omega
              · have hnx := hid (brel_pos (by omega) hbr.out)
                have e1 : ((x : Int) == 0) = false := by simp; omega
                have hz' : (i : Int) - y + 1 ≤ zf (bt a0) a0.size y := by omega
                clear hx0 hz
                go_wp2
                go_round
                case rel => exact ⟨x, y + 1, hx, by omega, by omega, rfl, by go_num, hnx⟩
                case measure => simp [intOf]; omega
            · have hnx : Hid (BRel (bt a0) i (y + 1) x) := by
                by_cases hx0 : x = 0
                · subst hx0; exact brel_miss hlt hy1 hyi hbr.out hz
                · exact brel_pos (by omega) hbr.out
              have hz' : decide ((i : Int) - y + 1 ≤ zf (bt a0) a0.size y) = false := by simp; omega
              clear hz
              go_wp2
              go_round
              case rel => exact ⟨x, y + 1, hx, by omega, by omega, rfl, by go_num, hnx⟩
              case measure => simp [intOf]; omega
          · have hyy : y = i + 1 := by omega
            have hend := brel_end (hyy ▸ hbr.out)
            have e1 : ((fail (bt a0) (i + 1) : Int) != x) = false := by simp; omega
            clear hyy hend
            go_wp2
            go_round
            case rel => exact ⟨i + 1, by omega, by go_num⟩
            case measure => simp [intOf]; omega
      · go_wp2
        go_ret
        exact ⟨rfl, bch hb1 (bch hb2 hb3)⟩
  · go_enter Try.func7, Try.ntmps7
    go_wp2_with fail
    refine (zetaFact_true _).mono ?_
    rintro e w1 ⟨rfl, hb1⟩
    go_wp2_with fail
    refine (zetaOf_bad _ a0 (by omega) w0).mono ?_
    rintro e w2 ⟨rfl, hb2⟩
    go_wp2_with fail
    refine (edgesOf_bad _ a0 (by omega) w0).mono ?_
    rintro e w3 ⟨rfl, hb3⟩
    go_wp2
    go_ret
    exact ⟨rfl, bch hb1 (bch hb2 hb3)⟩
end Go.Proofs.Ytocbkapoibddaaa

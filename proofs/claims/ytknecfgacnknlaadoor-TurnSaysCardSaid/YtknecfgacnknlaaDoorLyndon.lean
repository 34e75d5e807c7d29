/- lyndon.Parts and lyndon.Is; letterbeckref1.Before and Lyndon. -/
import Derived.Test.YtknecfgacnknlaaDoorEdgesOf
import Derived.Test.YtknecfgacnknlaaDoorStrs
import Derived.Test.YtknecfgacnknlaaDoorLynPlain
namespace Go.Proofs.YtknecfgacnknlaaDoor
set_option linter.unusedVariables false
set_option linter.unusedSimpArgs false
open Go.RowKit

attribute [local go_sem] get_bt

set_option maxHeartbeats 400000 in
theorem before_any (w : World) (s t : ByteArray) (hs : s.size ≤ 1000) (ht : t.size ≤ 1000) (b : Bool) (hb : b = true ↔ Bef (bt s) s.size (bt t) t.size) :
    Calls Tryd.prog 69 #[.string s, .string t] w fun e w' => e = .returned (.bool b) ∧ ∃ m, w' = w.drewN m := by
  have Hb := hid hb
  clear hb
  go_enter Tryd.func69, Tryd.ntmps69
  go_wp2
  go_loopw [5] (fun i wr => ∃ k m : Nat, k ≤ s.size ∧ k ≤ t.size ∧ i = .int .i64 k ∧ wr = w.drewN m ∧ Hid (∀ j, j < k → bt s j = bt t j)) (fun i _ => s.size - (intOf i).toNat)
  case atStart => exact ⟨0, 0, Nat.zero_le _, Nat.zero_le _, rfl, rfl, hid fun j hj => by omega⟩
  case round =>
    obtain ⟨k, m, hk, hk', rfl, rfl, hsame⟩ := hrel
    by_cases h1 : k < s.size
    · by_cases h2 : k < t.size
      · have h1' : (k : Int) < s.size := by omega
        have h2' : (k : Int) < t.size := by omega
        by_cases he : bt s k = bt t k
        · have e1 : ((bt s k : Int) != bt t k) = false := by simp [he]
          have He := hid he
          clear he
          go_wp2
          go_quiet (fail)
          go_wp2
          go_roundw
          case rel =>
            refine ⟨k + 1, _, h1, h2, by go_num, rfl, hid fun j hj => ?_⟩
            by_cases e : j = k
            · rw [e]; exact He.out
            · exact hsame.out j (by omega)
          case measure => simp [intOf]; omega
        · have e1 : ((bt s k : Int) != bt t k) = true := by simp; omega
          have hfin : Hid (decide (bt s k < bt t k) = b) := by
            have hh : (bt s k < bt t k) ↔ b = true := by
              rw [Hb.out]
              constructor
              · intro h; exact .inl ⟨k, h1, h2, hsame.out, by omega⟩
              · rintro (⟨l, h3, h4, h5, h6⟩ | ⟨h3, h4⟩)
                · rcases Nat.lt_trichotomy l k with h | h | h
                  · have := hsame.out l h; omega
                  · subst h; omega
                  · have := h5 k h; omega
                · exact absurd (h4 k h1) he
            cases b
            · simp only [decide_eq_false_iff_not]
              exact fun h => absurd (hh.1 h) (by decide)
            · simp only [decide_eq_true_eq]; exact hh.2 rfl
          clear he
          go_wp2
          go_quiet (fail)
          go_wp2
          go_quiet (fail)
          go_wp2
          go_ret
          exact ⟨by rw [← hfin.out]; rfl, _, by rw [World.drewN_drewN, World.drewN_drewN]⟩
      · have h2' : decide ((k : Int) < t.size) = false := by simp; omega
        have hbf : b = false := by
          cases b
          · rfl
          · rcases Hb.out.1 rfl with ⟨l, h3, h4, h5, h6⟩ | ⟨h3, h4⟩
            · have := hsame.out l (by omega); omega
            · omega
        have hd : decide (s.size < t.size) = false := by simp; omega
        subst hbf
        go_wp2
        go_ret
        exact ⟨rfl, m, rfl⟩
    · have hks : k = s.size := by omega
      have hfin : Hid (decide (s.size < t.size) = b) := by
        have hh : (s.size < t.size) ↔ b = true := by
          rw [Hb.out]
          constructor
          · intro h; exact .inr ⟨by omega, by rw [← hks]; exact hsame.out⟩
          · rintro (⟨l, h3, h4, h5, h6⟩ | ⟨h3, h4⟩)
            · have := hsame.out l (by omega); omega
            · omega
        cases b
        · simp only [decide_eq_false_iff_not]
          exact fun h => absurd (hh.1 h) (by decide)
        · simp only [decide_eq_true_eq]; exact hh.2 rfl
      have Hks := hid hks
      clear hks
      go_wp2
      go_ret
      exact ⟨by rw [← hfin.out]; rfl, m, rfl⟩

set_option maxHeartbeats 400000 in
theorem lynParts_bad (w : World) (s : ByteArray) (hs : 24 < s.size) (hm : s.size ≤ maxLen) :
    Calls Tryd.prog 36 #[.string s] w fun e w' => e = .returned (.tuple #[.slice none 0 0, errv 4]) ∧ Below w.heap.size w w' := by
  go_enter Tryd.func36, Tryd.ntmps36
  go_wp2_with (go_at_call 63; refine (long1_bad _ s hs hm _ _ (by simp)).mono ?_; rintro e w' ⟨rfl, rfl⟩)
  go_ret2
  exact ⟨rfl, (Below.refl _ _).alloc (Nat.le_refl _) _⟩

theorem facAt_len {f : Nat → Nat} {n e : Nat} {l : List Int} (h : FacAt f n 0 l e) : l.length ≤ e := by have := facAt_le h; omega

set_option maxHeartbeats 1000000 in
theorem lynParts_ok (w : World) (s : ByteArray) (hs : s.size ≤ 24) (L : List Int) (hL : FacAt (bt s) s.size 0 L s.size) :
    Calls Tryd.prog 36 #[.string s] w (RetInts w L) := by
  have HL := hid hL
  clear hL
  go_enter Tryd.func36, Tryd.ntmps36
  go_wp2_with (go_at_call 63; refine (long1_ok _ s hs _ _ (by simp)).mono ?_; rintro e w' ⟨rfl, rfl⟩)
  have hb0 : Below w.heap.size w (w.alloc (.cells #[.string s] 9)) := (Below.refl _ _).alloc (Nat.le_refl _) _
  obtain ⟨w1, hw1⟩ : ∃ w1, w1 = w.alloc (.cells #[.string s] 9) := ⟨_, rfl⟩
  rw [← hw1] at hb0 ⊢
  clear hw1
  go_loopw [5, 6] (fun v i wr => ∃ (a : Nat) (l : List Int), a ≤ s.size ∧ i = .int .i64 a ∧ Own wr w1.heap.size v l ∧ Hid (FacAt (bt s) s.size 0 l a) ∧ Below w1.heap.size w1 wr) (fun _ i _ => s.size - (intOf i).toNat)
  case atStart => exact ⟨0, [], Nat.zero_le _, rfl, Own.nil _ _, rfl, Below.refl _ _⟩
  case round =>
    obtain ⟨a, l, ha, rfl, ho, hfac, hb⟩ := hrel
    by_cases hlt : a < s.size
    · go_wp2
      go_loopw [7, 8] (fun j k wr' => ∃ J K m : Nat, a ≤ K ∧ K < J ∧ J ≤ s.size ∧ j = .int .i64 J ∧ k = .int .i64 K ∧ Hid (Duv (sh (bt s) a) (J - a) (J - K)) ∧ wr' = wr.drewN m) (fun j _ _ => s.size - (intOf j).toNat)
      case atStart => exact ⟨a + 1, a, 0, by omega, by omega, by omega, by go_num, rfl, hid (by rw [show a + 1 - a = 1 from by omega]; exact duv_start _), rfl⟩
      case round =>
        obtain ⟨J, K, m, h1, h2, h3, rfl, rfl, hD, rfl⟩ := hrel
        by_cases hgo : J < s.size ∧ bt s K ≤ bt s J
        · obtain ⟨hJ, hle⟩ := hgo
          have hJ' : (J : Int) < s.size := by omega
          have hK' : K < s.size := by omega
          have e1 : decide ((bt s K : Int) ≤ bt s J) = true := by simp; omega
          have eK : sh (bt s) a (J - a - (J - K)) = bt s K := by unfold sh; congr 1; omega
          have eJ : sh (bt s) a (J - a) = bt s J := by unfold sh; congr 1; omega
          by_cases hlt2 : bt s K < bt s J
          · have hn := hid (duv_more hD.out (by rw [eK, eJ]; exact hlt2))
            have e2 : decide ((bt s K : Int) < bt s J) = true := by simp; omega
            clear eK eJ
            go_wp2
            go_quiet (fail)
            go_wp2
            go_quiet (fail)
            go_wp2
            go_roundw
            case rel => exact ⟨J + 1, a, _, by omega, by omega, by omega, by go_num, rfl, hid (by rw [show J + 1 - a = J - a + 1 from by omega]; exact hn.out), rfl⟩
            case measure => simp [intOf]; omega
          · have hn := hid (duv_same hD.out (by rw [eK, eJ]; omega))
            have e2 : decide ((bt s K : Int) < bt s J) = false := by simp; omega
            clear eK eJ
            go_wp2
            go_quiet (fail)
            go_wp2
            go_quiet (fail)
            go_wp2
            go_roundw
            case rel => exact ⟨J + 1, K + 1, _, by omega, by omega, by omega, by go_num, by go_num, hid (by rw [show J + 1 - a = J - a + 1 from by omega, show J + 1 - (K + 1) = J - K from by omega]; exact hn.out), rfl⟩
            case measure => simp [intOf]; omega
        · have hend : Hid (J < s.size → bt s J < bt s K) := fun h => by
            have : ¬ bt s K ≤ bt s J := fun h' => hgo ⟨h, h'⟩
            omega
          have hcase : (J < s.size ∧ (J : Int) < s.size ∧ decide (bt s K ≤ bt s J) = false) ∨ (¬ J < s.size ∧ ¬ (J : Int) < s.size ∧ decide ((J : Int) < s.size) = false) := by
            rcases Nat.lt_or_ge J s.size with h | h
            · refine .inl ⟨h, by omega, ?_⟩
              have := hend.out h
              simp; omega
            · exact .inr ⟨by omega, by omega, by simp; omega⟩
          clear hgo
          rcases hcase with ⟨hJ, hJ', e1⟩ | ⟨hJ, hJ', e1⟩
          all_goals
            have hK' : K < s.size := by omega
            go_wp2
            go_quiet (fail)
            go_wp2
            go_loopw [5, 6] (fun v i wr' => ∃ (A : Nat) (l' : List Int), a ≤ A ∧ A ≤ J ∧ i = .int .i64 A ∧ Own wr' w1.heap.size v l' ∧ Hid (FacAt (bt s) s.size 0 l' A) ∧ Hid (J - K ≤ J - A → Duv (sh (bt s) A) (J - A) (J - K)) ∧ Hid (a < A ∨ A = a) ∧ Below w1.heap.size w1 wr') (fun _ i _ => s.size + 1 - (intOf i).toNat)
            case atStart => exact ⟨a, l, Nat.le_refl _, by omega, rfl, ho, hfac, hid fun _ => hD.out, hid (.inr rfl), below_dn (below_dn hb _) _⟩
            case round =>
              obtain ⟨A, l', hA1, hA2, rfl, ho', hfac', hD', hAa, hb'⟩ := hrel
              have hwr := hb'.size
              have hll := facAt_len hfac'.out
              by_cases hAK : A ≤ K
              · have hDA := hD'.out (by omega)
                have hlong : IsLong (sh (bt s) A) (s.size - A) (J - K) := duv_long hDA (by omega) (fun h => by
                  have := hend.out (by omega)
                  have e1 : sh (bt s) A (J - A) = bt s J := by unfold sh; congr 1; omega
                  have e2 : sh (bt s) A (J - A - (J - K)) = bt s K := by unfold sh; congr 1; omega
                  rw [e1, e2]; exact this)
                have hsn := hid (facAt_snoc hfac'.out (by omega) hlong)
                have hnx : Hid (J - K ≤ J - (A + (J - K)) → Duv (sh (bt s) (A + (J - K))) (J - (A + (J - K))) (J - K)) := fun h => by
                  have h5 := duv_rest hDA (by omega)
                  have e1 : sh (sh (bt s) A) (J - K) = sh (bt s) (A + (J - K)) := by funext x; unfold sh; congr 1; omega
                  rw [e1, show J - A - (J - K) = J - (A + (J - K)) from by omega] at h5
                  exact h5
                clear hDA hlong
                go_wp2_with (first
                  | (at_builtin; refine wp_append_int _ rfl _ _ rfl w1.heap.size _ _ rfl (ho'.alloc _) _ _ ((J : Int) - K) rfl (by simp) (by omega) (by simp; omega) ?_; intro v' w2 ho2 hg2; have hb2 : Below w1.heap.size w1 w2 := (hb'.alloc hwr _).grown hg2 (by simp; omega) (fun k hk => (ho'.lt k hk).1)))
                go_roundw
                case rel => exact ⟨A + (J - K), l' ++ [((J - K : Nat) : Int)], by omega, by omega, by congr 1; omega, by rw [show ((J - K : Nat) : Int) = (J : Int) - K from by omega]; exact ho2, hsn, hnx, hid (by omega), hb2⟩
                case measure => simp [intOf]; omega
              · go_wp2
                go_roundw
                case rel => exact ⟨A, l', by omega, rfl, ho', hfac', hb'⟩
                case measure =>
                  have := hAa.out
                  simp [intOf]; omega
    · have hal : a = s.size := by omega
      have hl := facAt_unique (hal ▸ hfac.out) HL.out
      subst hl
      obtain ⟨A', c', hv⟩ := ho.shape
      subst hv
      clear hal
      go_wp2
      go_ret2
      exact ⟨A', c', rfl, ho.mono hb0.size, bch hb0 hb⟩
end Go.Proofs.YtknecfgacnknlaaDoor

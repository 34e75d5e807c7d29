/- letterbecksame.Ints: it tells whether two lists of ints are the same. -/
import Derived.Test.YtknecfgacnknlaaDoorBase
namespace Go.Proofs.YtknecfgacnknlaaDoor
set_option linter.unusedVariables false
set_option linter.unusedSimpArgs false
open Go.RowKit

set_option maxHeartbeats 400000 in
theorem ints_quiet (w : World) (A A' : Option Addr) (c c' : Nat) (l l' : List Int) (B : Nat) (h : Sl w B A (ints l)) (h' : Sl w B A' (ints l')) (hl : l.length ≤ 9223372036854775807) (hl' : l'.length ≤ 9223372036854775807) :
    Calls Tryd.prog 18 #[.slice A l.length c, .slice A' l'.length c'] w fun e w' => e = .returned (.bool (decide (l = l'))) ∧ ∃ m, w' = w.drewN m := by
  by_cases he : l.length = l'.length
  · have hnn : ((l.length : Int) != l'.length) = false := by simp [he]
    have He := hid he
    clear he
    go_enter Tryd.func18, Tryd.ntmps18
    go_wp2
    go_loopw [5] (fun i wr => ∃ k m : Nat, k ≤ l.length ∧ i = .int .i64 k ∧ wr = w.drewN m ∧ Hid (∀ j, j < k → l[j]? = l'[j]?)) (fun i _ => l.length - (intOf i).toNat)
    case atStart => exact ⟨0, 0, Nat.zero_le _, rfl, rfl, hid fun j hj => absurd hj (by omega)⟩
    case round =>
      obtain ⟨k, m, hk, rfl, rfl, hsame⟩ := hrel
      by_cases hlt : k < l.length
      · have hlt' : k < l'.length := by have := He.out; omega
        obtain ⟨g, o, hA, hg, hc⟩ := h (by intro e; simp [ints] at e; simp [e] at hlt)
        obtain ⟨g', o', hA', hg', hc'⟩ := h' (by intro e; simp [ints] at e; simp [e] at hlt')
        have q := hc k _ (ints_get l k hlt)
        have q' := hc' k _ (ints_get l' k hlt')
        subst hA hA'
        clear hc hc'
        go_wp2
        go_quiet (fail)
        go_wp2
        · go_ret
          have ht : (l[k] != l'[k]) = true := by assumption
          refine ⟨?_, m + nq, World.drewN_drewN _ _ _⟩
          rw [decide_eq_false (fun e => by subst e; simp at ht)]
          rfl
        · go_roundw
          case rel =>
            have ht : (l[k] != l'[k]) = false := by assumption
            refine ⟨k + 1, _, hlt, by go_num, rfl, hid fun j hj => ?_⟩
            by_cases hj' : j < k
            · exact hsame.out j hj'
            · obtain rfl : j = k := by omega
              simpa [hlt, hlt'] using ht
          case measure => simp [intOf]; omega
      · have hk' : k = l.length := by omega
        subst hk'
        go_wp2
        go_ret
        refine ⟨?_, m, rfl⟩
        have : l = l' := List.ext_getElem? fun i => by
          by_cases hi : i < l.length
          · exact hsame.out i hi
          · have := He.out
            rw [List.getElem?_eq_none (by omega), List.getElem?_eq_none (by omega)]
        rw [decide_eq_true this]
        rfl
  · have hnn : ((l.length : Int) != l'.length) = true := by simp; omega
    go_enter Tryd.func18, Tryd.ntmps18
    go_wp2
    go_ret
    refine ⟨?_, 0, rfl⟩
    rw [decide_eq_false (fun e => he (by rw [e]))]
    rfl

theorem ints_any (w : World) (A A' : Option Addr) (c c' : Nat) (l l' : List Int) (B : Nat) (h : Sl w B A (ints l)) (h' : Sl w B A' (ints l')) (hl : l.length ≤ 9223372036854775807) (hl' : l'.length ≤ 9223372036854775807) :
    Calls Tryd.prog 18 #[.slice A l.length c, .slice A' l'.length c'] w fun e w' => e = .returned (.bool (decide (l = l'))) ∧ Below w.heap.size w w' :=
  (ints_quiet w A A' c c' l l' B h h' hl hl').mono fun _ _ ⟨h1, m, h2⟩ => ⟨h1, h2 ▸ below_drewN w m⟩

/-- .. inside a region that draws its order. -/
theorem ints_in (w : World) (A A' : Option Addr) (c c' n n' : Nat) (l l' : List Int) (B q : Nat) (h : Sl w B A (ints l)) (h' : Sl w B A' (ints l')) (hn : l.length = n) (hn' : l'.length = n') (hl : n ≤ 1000000) (hl' : n' ≤ 1000000) (b : Bool) (hb : decide (l = l') = b) :
    Calls Tryd.prog 18 #[.slice A n c, .slice A' n' c'] (w.drewN q) fun e w' => e = .returned (.bool b) ∧ ∃ m, w' = w.drewN m := by
  subst hn hn' hb
  exact Calls.quiet_of (ints_quiet (w.drewN q) A A' c c' l l' B h h' (by omega) (by omega))

theorem ints_eq (w : World) (A A' : Option Addr) (c c' n n' : Nat) (l l' : List Int) (B : Nat) (h : Sl w B A (ints l)) (h' : Sl w B A' (ints l')) (hn : l.length = n) (hn' : l'.length = n') (hl : n ≤ 1000000) (hl' : n' ≤ 1000000) (b : Bool) (hb : decide (l = l') = b) :
    Calls Tryd.prog 18 #[.slice A n c, .slice A' n' c'] w fun e w' => e = .returned (.bool b) ∧ Below w.heap.size w w' := by
  subst hn hn' hb
  exact ints_any w A A' c c' l l' B h h' (by omega) (by omega)
end Go.Proofs.YtknecfgacnknlaaDoor

/- slices.Reverse at []int: the row is turned round in its place. -/
import Derived.Test.YtknecfgacnknlaaDoorBase
namespace Go.Proofs.YtknecfgacnknlaaDoor
set_option linter.unusedVariables false
set_option linter.unusedSimpArgs false
open Go.RowKit

/-- What lies in the row after i exchanges. -/
def revTo (l : List Int) (i : Nat) : List Int := (List.range l.length).map fun p => if p < i ∨ l.length < p + 1 + i then l.getD (l.length - 1 - p) 0 else l.getD p 0

@[simp] theorem revTo_len (l : List Int) (i : Nat) : (revTo l i).length = l.length := by simp [revTo]

theorem revTo_zero (l : List Int) : revTo l 0 = l := by
  refine List.ext_getElem (by simp) fun p h1 h2 => ?_
  simp only [revTo, List.getElem_map, List.getElem_range]
  rw [if_neg (by omega)]
  simp [h2]

theorem revTo_all (l : List Int) (i : Nat) (h : l.length ≤ 2 * i + 1) : revTo l i = l.reverse := by
  refine List.ext_getElem (by simp) fun p h1 h2 => ?_
  simp only [revTo, List.getElem_map, List.getElem_range, List.getElem_reverse]
  simp at h1
  split
  · simp [show l.length - 1 - p < l.length by omega]
  · have : p = l.length - 1 - p := by omega
    have e : l[l.length - 1 - p]'(by omega) = l.getD (l.length - 1 - p) 0 := by simp [show l.length - 1 - p < l.length by omega]
    rw [e, ← this]

theorem revTo_get (l : List Int) (i p : Nat) (hp : p < l.length) (h : i ≤ p) (h2 : p + 1 + i ≤ l.length) : (revTo l i)[p]? = some (l.getD p 0) := by
  simp only [revTo, List.getElem?_map, List.getElem?_range hp, Option.map_some]
  rw [if_neg (by omega)]

theorem revTo_swap (l : List Int) (i j : Nat) (hj : j + 1 + i = l.length) (h : i < j) : ((revTo l i).set i (l.getD j 0)).set j (l.getD i 0) = revTo l (i + 1) := by
  refine List.ext_getElem (by simp) fun p h1 h2 => ?_
  simp only [revTo, List.getElem_set, List.getElem_map, List.getElem_range]
  by_cases e : j = p
  · subst e
    rw [if_pos rfl, if_pos (by omega)]
    congr 1; omega
  · rw [if_neg e]
    by_cases e2 : i = p
    · subst e2
      rw [if_pos rfl, if_pos (by omega)]
      congr 1; omega
    · rw [if_neg e2]
      by_cases h3 : p < i ∨ l.length < p + 1 + i
      · rw [if_pos h3, if_pos (by omega)]
      · rw [if_neg h3, if_neg (by omega)]

set_option maxHeartbeats 400000 in
theorem reverse_any (w : World) (base : Nat) (A : Option Addr) (c : Nat) (l : List Int) (h : Own w base (.slice A l.length c) l) (hl : l.length ≤ 1000000) :
    Calls Tryd.prog 65 #[.slice A l.length c] w fun e w' => e = .returned (.tuple #[]) ∧ Own w' base (.slice A l.length c) l.reverse ∧ w.grownBy w' (Value.slice A l.length c).ownBlock := by
  by_cases h0 : l.length = 0
  · have hl0 : l = [] := List.eq_nil_of_length_eq_zero h0
    subst hl0
    have hz : ((0 : Nat) : Int) = 0 := rfl
    go_enter Tryd.func65, Tryd.ntmps65
    go_wp2
    go_loop [2, 3] (fun i j => i = .int .i64 0 ∧ j = .int .i64 (-1)) (fun _ _ => 0)
    case atStart => exact ⟨rfl, rfl⟩
    case round =>
      obtain ⟨rfl, rfl⟩ := hrel
      go_wp2
      go_end0
      exact ⟨rfl, h, World.grownBy.refl _ _⟩
  · obtain ⟨h1, h2⟩ := h
    rcases h2 with ⟨_, h2⟩ | ⟨g, cap, cur, hv, hg, hh, r⟩
    · exact absurd h2 h0
    · have hA : A = some ⟨g, 0, none⟩ := by injection hv
      subst hA
      have h : Own w base (.slice (some ⟨g, 0, none⟩) l.length c) l := ⟨h1, .inr ⟨g, cap, cur, hv, hg, hh, r⟩⟩
      have hpos : 0 < l.length := by omega
      clear h1 h0 hv hh r
      go_enter Tryd.func65, Tryd.ntmps65
      go_wp2
      go_loopw [2, 3] (fun i j wr => ∃ a b : Nat, b + 1 + a = l.length ∧ i = .int .i64 a ∧ j = .int .i64 b ∧ Own wr base (.slice (some ⟨g, 0, none⟩) l.length c) (revTo l a) ∧ w.grownBy wr (some g)) (fun _ j _ => (intOf j).toNat)
      case atStart => exact ⟨0, l.length - 1, by omega, rfl, by congr 1; omega, by rw [revTo_zero]; exact h, World.grownBy.refl _ _⟩
      case round =>
        obtain ⟨a, b, hab, rfl, rfl, ho, hgr⟩ := hrel
        by_cases hlt : a < b
        · have qa := ho.cellAt (revTo_get l a a (by omega) (by omega) (by omega))
          have qb := ho.cellAt (revTo_get l a b (by omega) (by omega) (by omega))
          have fa := ho.frozenAt a
          have fb := ho.frozenAt b
          have ha' : a < l.length := by omega
          have hb' : b < l.length := by omega
          have hab' := hid hab
          clear hab
          generalize hx : l.getD a 0 = x at qa
          generalize hy : l.getD b 0 = y at qb
          have Hx := hid hx
          have Hy := hid hy
          clear hx hy
          go_wp2
          go_region
          all_goals
            go_wp2
            go_roundw
            case rel =>
              have hab := hab'.out
              have e := revTo_swap l a b hab (by omega)
              rw [Hx.out, Hy.out] at e
              refine ⟨a + 1, b - 1, by omega, by go_num, by congr 1; omega, ?_, ?_⟩
              · rw [← e]
                exact (ho.set a y).set b x
              · exact grown_drew ((hgr.trans (grown_set _ g a (.int .i64 y))).trans (grown_set _ g b (.int .i64 x)))
            case measure => simp [intOf]; omega
        · go_wp2
          go_end0
          rw [revTo_all _ _ (by omega)] at ho
          exact ⟨rfl, ho, hgr⟩
end Go.Proofs.YtknecfgacnknlaaDoor

/- letterbecklaw1.zetaFact returns true; letterbecklaw1.ZetaEdges: the walk. -/
import Derived.Test.YtocbkapoibddaaaZetaEdges
import Derived.Test.YtocbkapoibddaaaEdgesFact
namespace Go.Proofs.Ytocbkapoibddaaa
set_option linter.unusedVariables false
set_option linter.unusedSimpArgs false
open Go.RowKit

theorem zetaOf_at (w : World) (s : ByteArray) (hs : s.size ≤ 24) (l : List Int) (h : zOf (bt s) s.size = l) :
    Calls Try.prog 21 #[.string s] w (RetInts w l) := h ▸ zetaOf_ok w s hs

set_option maxHeartbeats 400000 in
theorem zetaFact_true (w : World) : Calls Try.prog 20 #[] w fun e w' => e = .returned (.bool true) ∧ Below w.heap.size w w' := by
  go_enter Try.func20, Try.ntmps20
  go_wp2_with fail
  refine (zetaOf_at _ ⟨#[97, 97, 98, 97, 97]⟩ (by decide) [5, 1, 0, 2, 1] (by decide)).mono ?_
  rintro e w1 ⟨A, c, rfl, ho, hb⟩
  go_wp2_with fail
  refine (ints_lit _ A c _ _ _ [5, 1, 0, 2, 1] [5, 1, 0, 2, 1] ho rfl rfl (by decide) (by decide) true (by decide)).mono ?_
  rintro e w3 ⟨rfl, hb3⟩
  go_wp2
  go_ret
  exact ⟨rfl, bch hb hb3⟩

set_option maxHeartbeats 400000 in
theorem walk_zetaEdges (a0 : ByteArray) (w0 : a0.size ≤ maxLen) (W : World) :
    Calls Try.prog 8 #[.string a0] W fun e w' => e = .returned (.bool true) ∧ Below W.heap.size W w' := by
  by_cases hs : a0.size ≤ 24
  · have hlen := edgesAll_len (bt a0) a0.size
    go_enter Try.func8, Try.ntmps8
    go_wp2_with fail
    refine (zetaFact_true _).mono ?_
    rintro e w1 ⟨rfl, hb1⟩
    go_wp2_with fail
    refine (zetaEdges_ok _ a0 hs).mono ?_
    rintro e w2 ⟨A2, c2, rfl, ho2, hb2⟩
    go_wp2_with fail
    refine (edgesAll_ok _ a0 hs).mono ?_
    rintro e w3 ⟨A3, c3, rfl, ho3, hb3⟩
    go_wp2_with fail
    refine (ints_eq _ A2 A3 c2 c3 _ _ _ _ w3.heap.size ((ho2.below hb3).slB _ (Nat.le_refl _)) (ho3.slB _ (Nat.le_refl _)) rfl rfl (by omega) (by omega) true (by simp)).mono ?_
    rintro e w4 ⟨rfl, hb4⟩
    go_wp2
    go_ret
    exact ⟨rfl, bch hb1 (bch hb2 (bch hb3 hb4))⟩
  · go_enter Try.func8, Try.ntmps8
    go_wp2_with fail
    refine (zetaFact_true _).mono ?_
    rintro e w1 ⟨rfl, hb1⟩
    go_wp2_with fail
    refine (zetaEdges_bad _ a0 (by omega) w0).mono ?_
    rintro e w2 ⟨rfl, hb2⟩
    go_wp2_with fail
    refine (edgesAll_bad _ a0 (by omega) w0).mono ?_
    rintro e w3 ⟨rfl, hb3⟩
    go_wp2
    go_ret
    exact ⟨rfl, bch hb1 (bch hb2 hb3)⟩
end Go.Proofs.Ytocbkapoibddaaa

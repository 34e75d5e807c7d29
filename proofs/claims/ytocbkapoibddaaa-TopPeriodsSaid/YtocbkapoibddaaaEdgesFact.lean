/- letterbecklaw1.edgesFact returns true. -/
import Derived.Test.YtocbkapoibddaaaEdgesAll
import Derived.Test.YtocbkapoibddaaaInts
namespace Go.Proofs.Ytocbkapoibddaaa
set_option linter.unusedVariables false
set_option linter.unusedSimpArgs false
open Go.RowKit

theorem edgesAll_at (w : World) (s : ByteArray) (hs : s.size ≤ 24) (l : List Int) (h : edgesAll (bt s) s.size = l) :
    Calls Try.prog 15 #[.string s] w (RetInts w l) := h ▸ edgesAll_ok w s hs

theorem edgesOf_at (w : World) (s : ByteArray) (hs : s.size ≤ 24) (l : List Int) (h : edgesOf (bt s) s.size = l) :
    Calls Try.prog 18 #[.string s] w (RetInts w l) := h ▸ edgesOf_ok w s hs

/-- The call of Ints at a list of one's own and a list written out. -/
theorem ints_lit (w : World) (A : Option Addr) (c n n' base : Nat) (l l' : List Int) (h : Own w base (.slice A n c) l) (hn : l.length = n) (hn' : l'.length = n') (hl : n ≤ 1000000) (hl' : n' ≤ 1000000) (b : Bool) (hb : decide (l = l') = b) :
    Calls Try.prog 17 #[.slice A n c, .slice (some ⟨w.heap.size, 0, none⟩) n' n'] (w.alloc (.cells (ints l').toArray 3)) fun e w' => e = .returned (.bool b) ∧ Below w.heap.size w w' :=
  (ints_eq _ A _ c n' n n' l l' (w.heap.size + 1) ((h.alloc _).slB _ (by simp)) (sl_new w l' _ (by omega)) hn hn' hl hl' b hb).mono fun e w' ⟨h1, h2⟩ =>
    ⟨h1, ((Below.refl _ _).alloc (Nat.le_refl _) _).trans (h2.mono (by simp))⟩

set_option maxHeartbeats 400000 in
theorem edgesFact_true (w : World) : Calls Try.prog 14 #[] w fun e w' => e = .returned (.bool true) ∧ Below w.heap.size w w' := by
  go_enter Try.func14, Try.ntmps14
  go_wp2_with fail
  refine (edgesOf_at _ ⟨#[97, 98, 97, 97, 98]⟩ (by decide) [0, 0, 1, 1, 2] (by decide)).mono ?_
  rintro e w1 ⟨A, c, rfl, ho, hb⟩
  go_wp2_with fail
  refine (edgesAll_at _ ⟨#[97, 97, 97]⟩ (by decide) [1, 2] (by decide)).mono ?_
  rintro e w2 ⟨A2, c2, rfl, ho2, hb2⟩
  go_wp2_with fail
  refine (ints_lit _ A c _ _ _ [0, 0, 1, 1, 2] [0, 0, 1, 1, 2] (ho.below hb2) rfl rfl (by decide) (by decide) true (by decide)).mono ?_
  rintro e w3 ⟨rfl, hb3⟩
  go_wp2_with fail
  refine (ints_lit _ A2 c2 _ _ _ [1, 2] [1, 2] (ho2.below hb3) rfl rfl (by decide) (by decide) true (by decide)).mono ?_
  rintro e w4 ⟨rfl, hb4⟩
  go_wp2
  go_ret
  exact ⟨rfl, hb.trans ((hb2.mono hb.size).trans ((hb3.mono (Nat.le_trans hb.size hb2.size)).trans (hb4.mono (Nat.le_trans (Nat.le_trans hb.size hb2.size) hb3.size))))⟩
end Go.Proofs.Ytocbkapoibddaaa

/- E.Ints at a list of one's own and a list written out. -/
import Derived.Test.YtknecfgacnknlaaDoorInts
namespace Go.Proofs.YtknecfgacnknlaaDoor
set_option linter.unusedVariables false
set_option linter.unusedSimpArgs false
open Go.RowKit

theorem ints_new (w : World) (A : Option Addr) (c n n' base : Nat) (l l' : List Int) (h : Own w base (.slice A n c) l) (hn : l.length = n) (hn' : l'.length = n') (hl : n ≤ 1000000) (hl' : n' ≤ 1000000) (b : Bool) (hb : decide (l = l') = b) :
    Calls Tryd.prog 18 #[.slice A n c, .slice (some ⟨w.heap.size, 0, none⟩) n' n'] (w.alloc (.cells (ints l').toArray 3)) fun e w' => e = .returned (.bool b) ∧ Below w.heap.size w w' :=
  (ints_eq _ A _ c n' n n' l l' (w.heap.size + 1) ((h.alloc _).slB _ (by simp)) (sl_new w l' _ (by omega)) hn hn' hl hl' b hb).mono fun e w' ⟨h1, h2⟩ =>
    ⟨h1, ((Below.refl _ _).alloc (Nat.le_refl _) _).trans (h2.mono (by simp))⟩
end Go.Proofs.YtknecfgacnknlaaDoor

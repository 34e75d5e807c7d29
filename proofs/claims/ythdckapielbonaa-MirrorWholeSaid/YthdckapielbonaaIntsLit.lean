/- Calls of edges.All, edges.Of, and of E.Ints at a list written out. -/
import Derived.Test.YthdckapielbonaaEdgesAll
import Derived.Test.YthdckapielbonaaInts
namespace Go.Proofs.Ythdckapielbonaa
set_option linter.unusedVariables false
set_option linter.unusedSimpArgs false
open Go.RowKit

theorem edgesAll_at (w : World) (s : ByteArray) (hs : s.size ≤ 24) (l : List Int) (h : edgesAll (bt s) s.size = l) :
    Calls Try.prog 19 #[.string s] w (RetInts w l) := h ▸ edgesAll_ok w s hs

theorem edgesOf_at (w : World) (s : ByteArray) (hs : s.size ≤ 24) (l : List Int) (h : edgesOf (bt s) s.size = l) :
    Calls Try.prog 27 #[.string s] w (RetInts w l) := h ▸ edgesOf_ok w s hs

/-- The call of Ints at a list of one's own and a list written out. -/
theorem ints_lit (w : World) (A : Option Addr) (c n n' base : Nat) (l l' : List Int) (h : Own w base (.slice A n c) l) (hn : l.length = n) (hn' : l'.length = n') (hl : n ≤ 1000000) (hl' : n' ≤ 1000000) (b : Bool) (hb : decide (l = l') = b) :
    Calls Try.prog 13 #[.slice A n c, .slice (some ⟨w.heap.size, 0, none⟩) n' n'] (w.alloc (.cells (ints l').toArray 3)) fun e w' => e = .returned (.bool b) ∧ Below w.heap.size w w' :=
  (ints_eq _ A _ c n' n n' l l' (w.heap.size + 1) ((h.alloc _).slB _ (by simp)) (sl_new w l' _ (by omega)) hn hn' hl hl' b hb).mono fun e w' ⟨h1, h2⟩ =>
    ⟨h1, ((Below.refl _ _).alloc (Nat.le_refl _) _).trans (h2.mono (by simp))⟩

end Go.Proofs.Ythdckapielbonaa

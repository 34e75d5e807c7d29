/- core.Long(24, a, b) at the place of its call: two texts in a new block. -/
import Derived.Test.YthlibdpemocpmaaEdgesOf
namespace Go.Proofs.Ythlibdpemocpmaa
set_option linter.unusedVariables false
set_option linter.unusedSimpArgs false
open Go.RowKit

theorem sl_two (w : World) (a b : ByteArray) (B : Nat) (hB : w.heap.size < B) : Sl (w.alloc (.cells #[.string a, .string b] 9)) B (some ⟨w.heap.size, 0, none⟩) ([a, b].map Value.string) := fun _ =>
  ⟨w.heap.size, 0, rfl, hB, fun i u hu => by
    rw [Nat.zero_add, cell_of_row _ w.heap.size i #[.string a, .string b] 9 (0, 0) (heap_alloc_new w _)]
    simpa using hu⟩

theorem long2_ok (w : World) (a b : ByteArray) (ha : a.size ≤ 24) (hb : b.size ≤ 24) :
    Calls Try.prog 33 #[.int .i64 24, .slice (some ⟨w.heap.size, 0, none⟩) 2 2] (w.alloc (.cells #[.string a, .string b] 9)) fun e w' => e = .returned .nilIface ∧ (w.alloc (.cells #[.string a, .string b] 9)) = w' :=
  long_ok _ _ 2 [a, b] 24 (w.heap.size + 1) (sl_two w a b _ (by omega)) (by simp) (by decide) (fun i hi => by
    match i, hi with
    | 0, _ => show (a.size : Int) ≤ 24; omega
    | 1, _ => show (b.size : Int) ≤ 24; omega)

theorem long2_bad (w : World) (a b : ByteArray) (h : 24 < a.size ∨ 24 < b.size) (ha : a.size ≤ maxLen) (hb : b.size ≤ maxLen) :
    Calls Try.prog 33 #[.int .i64 24, .slice (some ⟨w.heap.size, 0, none⟩) 2 2] (w.alloc (.cells #[.string a, .string b] 9)) fun e w' => e = .returned (errv 4) ∧ (w.alloc (.cells #[.string a, .string b] 9)) = w' := by
  have hz : ∀ i (hi : i < [a, b].length), [a, b][i].size ≤ 9223372036854775807 := fun i hi => by
    match i, hi with
    | 0, _ => exact ha
    | 1, _ => exact hb
  rcases h with h | h
  · exact long_bad _ _ 2 [a, b] 24 (w.heap.size + 1) (sl_two w a b _ (by omega)) (by simp) (by decide) 0 (by simp) (by show (24 : Int) < (a.size : Int); omega) hz
  · exact long_bad _ _ 2 [a, b] 24 (w.heap.size + 1) (sl_two w a b _ (by omega)) (by simp) (by decide) 1 (by simp) (by show (24 : Int) < (b.size : Int); omega) hz

/-- The cell of a new block behind some draws. -/
theorem new_one (w : World) (n : Nat) (x : Value) (t : TypeId) : ((w.drewN n).alloc (.cells #[x] t)).cell? ⟨w.heap.size, 0, none⟩ = some x := by
  have := cell_of_row ((w.drewN n).alloc (.cells #[x] t)) w.heap.size 0 #[x] t (0, 0) (heap_alloc_new (w.drewN n) _)
  simpa using this
end Go.Proofs.Ythlibdpemocpmaa

/- letterbecklaw1.trieFact returns true. -/
import Derived.Test.YthlibdpemocpmaaTrieLong
import Derived.Test.YthlibdpemocpmaaInts
import Derived.Test.YthlibdpemocpmaaLong2
import Derived.Test.YthlibdpemocpmaaBegins
namespace Go.Proofs.Ythlibdpemocpmaa
set_option linter.unusedVariables false
set_option linter.unusedSimpArgs false
open Go.RowKit

/-! The same, reckoned. -/
def wallB (ws : List ByteArray) : Bool := decide (ws.length ≤ 6) && (List.range ws.length).all fun k => decide (0 < (wat ws k).size) && decide ((wat ws k).size ≤ 8) && (List.range k).all fun j => decide (wat ws j ≠ wat ws k)
theorem wall_of {ws : List ByteArray} (h : wallB ws = true) : WAll ws := by
  unfold wallB at h
  simp only [Bool.and_eq_true, decide_eq_true_eq, List.all_eq_true, List.mem_range] at h
  exact ⟨h.1, fun k hk => ⟨(h.2 k hk).1.1, (h.2 k hk).1.2, fun ⟨j, h1, h2⟩ => (h.2 k hk).2 j h1 h2⟩⟩
def begB (t s : ByteArray) : Bool := decide (s.size ≤ t.size) && (List.range s.size).all fun j => bt t j == bt s j
theorem begB_iff {t s : ByteArray} : begB t s = true ↔ Begs t s := by simp [begB, Begs]
def wlB (ws : List ByteArray) (t : ByteArray) (m : Nat) : Bool := decide (m < ws.length) && begB t (wat ws m) && (List.range ws.length).all fun i => !begB t (wat ws i) || decide ((wat ws i).size ≤ (wat ws m).size)
theorem wl_of {ws : List ByteArray} {t : ByteArray} {m : Nat} (h : wlB ws t m = true) : WLongest ws t m := by
  unfold wlB at h
  simp only [Bool.and_eq_true, decide_eq_true_eq, List.all_eq_true, List.mem_range, Bool.or_eq_true, Bool.not_eq_true'] at h
  refine .inr ⟨m, h.1.1, rfl, begB_iff.1 h.1.2, fun i hi hb => ?_⟩
  rcases h.2 i hi with h1 | h1
  · rw [begB_iff.2 hb] at h1; cases h1
  · exact h1

theorem sl_three (w : World) (a b c : ByteArray) (B : Nat) (hB : w.heap.size < B) : Sl (w.alloc (.cells #[.string a, .string b, .string c] 9)) B (some ⟨w.heap.size, 0, none⟩) ([a, b, c].map Value.string) := fun _ =>
  ⟨w.heap.size, 0, rfl, hB, fun i u hu => by
    rw [Nat.zero_add, cell_of_row _ w.heap.size i #[.string a, .string b, .string c] 9 (0, 0) (heap_alloc_new w _)]
    simpa using hu⟩

theorem ord_lit : ordW [⟨#[98]⟩, ⟨#[97, 98]⟩, ⟨#[97]⟩] = [2, 1, 0] := by decide +kernel
theorem size_lit : (nodesTo [⟨#[97, 98]⟩, ⟨#[97, 99]⟩] 2).length = 4 := by decide +kernel

set_option maxRecDepth 100000 in
set_option maxHeartbeats 1000000 in
theorem trieFact_true (w : World) : Calls Try.prog 10 #[] w fun e w' => e = .returned (.bool true) ∧ Below w.heap.size w w' := by
  have H1 := hid (fun w => trieSize_ok (w.alloc (.cells #[.string ⟨#[97, 98]⟩, .string ⟨#[97, 99]⟩] 9)) (some ⟨w.heap.size, 0, none⟩) 2 [⟨#[97, 98]⟩, ⟨#[97, 99]⟩] (sl_two w _ _ _ (by simp)) (Nat.le_refl _) (wall_of (by decide)))
  have H2 := hid (fun w => trieOrder_ok (w.alloc (.cells #[.string ⟨#[98]⟩, .string ⟨#[97, 98]⟩, .string ⟨#[97]⟩] 9)) (some ⟨w.heap.size, 0, none⟩) 3 [⟨#[98]⟩, ⟨#[97, 98]⟩, ⟨#[97]⟩] (sl_three w _ _ _ _ (by simp)) (Nat.le_refl _) (wall_of (by decide)))
  have H3 := hid (fun w => trieLongest_ok (w.alloc (.cells #[.string ⟨#[97]⟩, .string ⟨#[97, 98]⟩] 9)) (some ⟨w.heap.size, 0, none⟩) 2 [⟨#[97]⟩, ⟨#[97, 98]⟩] (sl_two w _ _ _ (by simp)) (Nat.le_refl _) (wall_of (by decide)) ⟨#[97, 98, 99]⟩ (by decide) 1 (wl_of (m := 1) (by decide)))
  have e1 : (nodesTo [⟨#[97, 98]⟩, ⟨#[97, 99]⟩] ([⟨#[97, 98]⟩, ⟨#[97, 99]⟩] : List ByteArray).length).length = 4 := size_lit
  simp only [e1] at H1
  rw [ord_lit] at H2
  go_enter Try.func10, Try.ntmps10
  go_wp2_with fail
  refine (H1.out _).mono ?_
  rintro e w1 ⟨rfl, hb1⟩
  have hB1 : Below w.heap.size w w1 := bch ((Below.refl _ _).alloc (Nat.le_refl _) _) hb1
  clear hb1
  go_wp2_with fail
  refine (H2.out _).mono ?_
  rintro e w2 ⟨A2, c2, rfl, ho2, hb2⟩
  have hB2 : Below w.heap.size w w2 := bch hB1 (bch ((Below.refl _ _).alloc (Nat.le_refl _) _) hb2)
  clear hb2 hB1
  go_wp2_with fail
  refine (H3.out _).mono ?_
  rintro e w3 ⟨rfl, hb3⟩
  have ho3 := (ho2.alloc (.cells #[.string ⟨#[97]⟩, .string ⟨#[97, 98]⟩] 9)).below hb3
  have hB3 : Below w.heap.size w w3 := bch hB2 (bch ((Below.refl _ _).alloc (Nat.le_refl _) _) hb3)
  clear hb3 hB2 ho2
  go_wp2_with fail
  have hi := ints_eq (w3.alloc (.cells (ints [2, 1, 0]).toArray 3)) A2 (some ⟨w3.heap.size, 0, none⟩) c2 3 3 3 [2, 1, 0] [2, 1, 0] (w3.heap.size + 1) ((ho3.alloc _).slB _ (by simp)) (sl_new w3 _ _ (by omega)) rfl rfl (by decide) (by decide) true (by decide)
  refine hi.mono ?_
  rintro e w4 ⟨rfl, hb4⟩
  have hB4 : Below w3.heap.size w3 w4 := ((Below.refl _ _).alloc (Nat.le_refl _) _).trans (hb4.mono (by simp))
  go_wp2_with fail
  go_ret
  exact ⟨rfl, bch hB3 hB4⟩
end Go.Proofs.Ythlibdpemocpmaa

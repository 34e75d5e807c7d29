/- letterbecklaw1.periodFact returns true; period.Has at every text of at most 24 bytes. -/
import Derived.Test.YtocbkapoibddaaaPeriodAll
import Derived.Test.YtocbkapoibddaaaEdgesFact
import Derived.Test.YtocbkapoibddaaaIn
namespace Go.Proofs.Ytocbkapoibddaaa
set_option linter.unusedVariables false
set_option linter.unusedSimpArgs false
open Go.RowKit

/-- The number k is a period of the first n bytes. -/
def HasP (f : Nat → Nat) (n : Nat) (k : Int) : Prop := ∃ p : Nat, k = p ∧ 0 < p ∧ Per f n p

theorem periodHas_ok (w : World) (s : ByteArray) (k : Int) (hs : s.size ≤ 24) (b : Bool) (hb : b = true ↔ HasP (bt s) s.size k) :
    Calls Try.prog 24 #[.string s, .int .i64 k] w fun e w' => e = .returned (.tuple #[.bool b, .nilIface]) ∧ Below w.heap.size w w' := by
  by_cases h0 : 0 < s.size
  · refine periodHas_at w s k (perList (bt s) s.size) (by have := edgesAll_len (bt s) s.size; simp; omega) (hid (periodAll_ok w s hs h0)) b (hid ?_)
    have h1 := mem_perList (f := bt s) h0 (x := k)
    cases b
    · simp only [decide_eq_false_iff_not]
      exact fun h => by have := hb.2 (h1.1 h); cases this
    · simp only [decide_eq_true_eq]
      exact h1.2 (hb.1 rfl)
  · refine periodHas_at w s k [] (by simp) (hid (periodAll_none w s (by omega))) b (hid ?_)
    cases b
    · simp
    · obtain ⟨p, _, h1, h2, _⟩ := hb.1 rfl
      omega

theorem periodHas_yes (w : World) (s : ByteArray) (k : Int) (hs : s.size ≤ 24) (h : HasP (bt s) s.size k) :
    Calls Try.prog 24 #[.string s, .int .i64 k] w fun e w' => e = .returned (.tuple #[.bool true, .nilIface]) ∧ Below w.heap.size w w' :=
  periodHas_ok w s k hs true ⟨fun _ => h, fun _ => rfl⟩

theorem periodHas_no (w : World) (s : ByteArray) (k : Int) (hs : s.size ≤ 24) (h : ¬ HasP (bt s) s.size k) :
    Calls Try.prog 24 #[.string s, .int .i64 k] w fun e w' => e = .returned (.tuple #[.bool false, .nilIface]) ∧ Below w.heap.size w w' :=
  periodHas_ok w s k hs false ⟨fun h' => absurd h' (by decide), fun h' => absurd h' h⟩

theorem periodAll_at (w : World) (s : ByteArray) (hs : s.size ≤ 24) (hpos : 0 < s.size) (l : List Int) (h : perList (bt s) s.size = l) :
    Calls Try.prog 25 #[.string s] w (RetInts w l) := h ▸ periodAll_ok w s hs hpos

set_option maxHeartbeats 400000 in
theorem periodFact_true (w : World) : Calls Try.prog 23 #[] w fun e w' => e = .returned (.bool true) ∧ Below w.heap.size w w' := by
  go_enter Try.func23, Try.ntmps23
  go_wp2_with fail
  refine (periodAll_at _ ⟨#[97, 98, 97, 97, 98]⟩ (by decide) (by decide) [3, 5] (by decide)).mono ?_
  rintro e w1 ⟨A, c, rfl, ho, hb⟩
  go_wp2_with fail
  refine (periodHas_yes _ ⟨#[97, 98, 97, 98]⟩ 2 (by decide) ⟨2, rfl, by decide, (per_bdr (by decide) (by decide)).2 (by decide)⟩).mono ?_
  rintro e w2 ⟨rfl, hb2⟩
  go_wp2_with fail
  refine (ints_lit _ A c _ _ _ [3, 5] [3, 5] (ho.below hb2) rfl rfl (by decide) (by decide) true (by decide)).mono ?_
  rintro e w3 ⟨rfl, hb3⟩
  go_wp2
  go_ret
  exact ⟨rfl, bch hb (bch hb2 hb3)⟩
end Go.Proofs.Ytocbkapoibddaaa

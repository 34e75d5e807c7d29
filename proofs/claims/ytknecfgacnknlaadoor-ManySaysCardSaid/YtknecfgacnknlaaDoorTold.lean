/- plain.Told, letterbecksame.Error, letterbecklaw1.long: the number of an error; lists of numbers that a function hands back alone. -/
import Derived.Test.YtknecfgacnknlaaDoorAs
import Derived.Test.YtknecfgacnknlaaDoorLong2
namespace Go.Proofs.YtknecfgacnknlaaDoor
set_option linter.unusedVariables false
set_option linter.unusedSimpArgs false
open Go.RowKit

/-- errors.errorType holds the handle of the type error. -/
def HasET (w : World) : Prop := w.cell? ⟨0, 0, none⟩ = some (.iface 137 (.agg #[.pointer (some ⟨2, 27, none⟩)]))

theorem HasET.below {w w' : World} (h : HasET w) (hb : Below w.heap.size w w') : HasET w' := (hb.cell (World.block_lt_of_cell? w _ h)).trans h
theorem HasET.drewN {w : World} (h : HasET w) (n : Nat) : HasET (w.drewN n) := h

set_option maxHeartbeats 400000 in
theorem told_nil (w : World) : Calls Tryd.prog 64 #[.nilIface] w fun e w' => e = .returned (.int .i64 0) ∧ Below w.heap.size w w' := by
  go_enter Tryd.func64, Tryd.ntmps64
  go_wp2
  go_ret
  exact ⟨rfl, Below.refl _ _⟩

set_option maxHeartbeats 1000000 in
theorem told_hit (w : World) (x : Int) (hT : HasET w) : Calls Tryd.prog 64 #[errv x] w fun e w' => e = .returned (.int .i64 x) ∧ Below w.heap.size w w' := by
  have hlt := World.block_lt_of_cell? w _ hT
  have hg : (w.alloc (.cells #[.int .i64 0] 74)).cell? ⟨0, 0, none⟩ = some (.iface 137 (.agg #[.pointer (some ⟨2, 27, none⟩)])) :=
    (((Below.refl w.heap.size w).alloc (Nat.le_refl _) _).cell hlt).trans hT
  have ht : (w.alloc (.cells #[.int .i64 0] 74)).cell? ⟨w.heap.size, 0, none⟩ = some (.int .i64 0) := by simp
  have hf : (w.alloc (.cells #[.int .i64 0] 74)).frozen? ⟨w.heap.size, 0, none⟩ = false := by simp
  have Hc := hid (as_hit x ⟨w.heap.size, 0, none⟩ (.int .i64 0) (w.alloc (.cells #[.int .i64 0] 74)) hg ht hf)
  clear hg ht hf hT hlt
  go_enter Tryd.func64, Tryd.ntmps64
  go_wp2_with fail
  refine Hc.out.mono ?_
  rintro e w' ⟨rfl, hw⟩
  have hc : w'.cell? ⟨w.heap.size, 0, none⟩ = some (.int .i64 x) := by
    rw [hw]
    refine World.cell?_setCell_same _ _ _ (u := .int .i64 0) ?_
    rw [World.cell?_alloc_lt _ _ ⟨w.heap.size, 0, none⟩ (by simp; omega), World.cell?_alloc_lt _ _ ⟨w.heap.size, 0, none⟩ (by simp; omega), World.cell?_alloc_lt _ _ ⟨w.heap.size, 0, none⟩ (by simp; omega), World.cell?_alloc_lt _ _ ⟨w.heap.size, 0, none⟩ (by simp)]
    simp
  have hb : Below w.heap.size w w' := by
    rw [hw]
    refine Below.setCell (p := ⟨w.heap.size, 0, none⟩) ?_ (Nat.le_refl _) _
    refine Below.alloc (Below.alloc (Below.alloc (Below.alloc ((Below.refl _ _).alloc (Nat.le_refl _) _) (by simp) _) (by simp; omega) _) (by simp; omega) _) (by simp; omega) _
  clear hw
  go_wp2
  go_ret
  exact ⟨rfl, hb⟩

/-- An error that is x's. -/
def IsErr (v : Value) (x : Int) : Prop := (v = .nilIface ∧ x = 0) ∨ v = errv x

set_option maxHeartbeats 400000 in
theorem error_ok (w : World) (v : Value) (x : Int) (hT : HasET w) (h : IsErr v x) : Calls Tryd.prog 17 #[v, .int .i64 x] w fun e w' => e = .returned (.bool true) ∧ Below w.heap.size w w' := by
  rcases h with ⟨rfl, rfl⟩ | rfl
  · go_enter Tryd.func17, Tryd.ntmps17
    go_wp2_with fail
    refine (told_nil _).mono ?_
    rintro e w' ⟨rfl, hb⟩
    go_wp2
    go_ret
    exact ⟨rfl, hb⟩
  · go_enter Tryd.func17, Tryd.ntmps17
    go_wp2_with fail
    refine (told_hit _ x hT).mono ?_
    rintro e w' ⟨rfl, hb⟩
    go_wp2
    go_ret
    exact ⟨rfl, hb⟩

theorem lawLong_ok (w : World) (s : ByteArray) (h : s.size ≤ 24) : Calls Tryd.prog 13 #[.string s] w fun e w' => e = .returned (.int .i64 0) ∧ w = w' := by
  go_enter Tryd.func13, Tryd.ntmps13
  go_wp2
  go_ret
  exact ⟨rfl, rfl⟩

theorem lawLong_bad (w : World) (s : ByteArray) (h : 24 < s.size) : Calls Tryd.prog 13 #[.string s] w fun e w' => e = .returned (.int .i64 4) ∧ w = w' := by
  go_enter Tryd.func13, Tryd.ntmps13
  go_wp2
  go_ret
  exact ⟨rfl, rfl⟩

/-- What a function leaves that hands back a list of its own. -/
def RetL (w : World) (l : List Int) (e : Ending) (w' : World) : Prop :=
  ∃ A c, e = .returned (.slice A l.length c) ∧ Own w' w.heap.size (.slice A l.length c) l ∧ Below w.heap.size w w'
end Go.Proofs.YtknecfgacnknlaaDoor

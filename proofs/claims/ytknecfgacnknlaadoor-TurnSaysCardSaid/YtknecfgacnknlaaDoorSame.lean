/- strings.Contains at two texts, told by bytes; turn.Same; letterbecklaw1.turnFact. -/
import Derived.Test.YtknecfgacnknlaaDoorShelf
import Derived.Test.YtknecfgacnknlaaDoorLong2
import Derived.Test.YtknecfgacnknlaaDoorTurnLeastFn
import Derived.Test.YtknecfgacnknlaaDoorTurnRoot
import Derived.Test.YtknecfgacnknlaaDoorTurnB
namespace Go.Proofs.YtknecfgacnknlaaDoor
set_option linter.unusedVariables false
set_option linter.unusedSimpArgs false
open Go.RowKit

theorem index_iff (sub : List UInt8) : ∀ l : List UInt8, 0 ≤ Lib.index l sub ↔ ∃ i, i ≤ l.length ∧ sub.isPrefixOf (l.drop i) = true
  | [] => by
    unfold Lib.index
    cases sub with
    | nil => simp
    | cons c sub => simp
  | b :: l => by
    have ih := index_iff sub l
    have hge : ∀ l : List UInt8, -1 ≤ Lib.index l sub := by
      intro l
      induction l with
      | nil => unfold Lib.index; split <;> omega
      | cons b l ih =>
        unfold Lib.index
        split
        · omega
        · split <;> omega
    have := hge l
    unfold Lib.index
    by_cases h : sub.isPrefixOf (b :: l) = true
    · rw [if_pos h]
      exact ⟨fun _ => ⟨0, Nat.zero_le _, h⟩, fun _ => by omega⟩
    · rw [if_neg h]
      constructor
      · intro h2
        have h3 : 0 ≤ Lib.index l sub := by
          by_cases e : Lib.index l sub == -1
          · rw [if_pos e] at h2; omega
          · have : Lib.index l sub ≠ -1 := by simpa using e
            omega
        obtain ⟨i, h4, h5⟩ := ih.1 h3
        exact ⟨i + 1, by simp; omega, by simpa using h5⟩
      · rintro ⟨i, h4, h5⟩
        rcases i with _ | i
        · exact absurd h5 h
        · have h6 := ih.2 ⟨i, by simp at h4; omega, by simpa using h5⟩
          have : ¬ (Lib.index l sub == -1) = true := by simp; omega
          rw [if_neg this]; omega

theorem pre_iff {s t : ByteArray} {i : Nat} (hi : i ≤ s.size) : t.data.toList.isPrefixOf (s.data.toList.drop i) = true ↔ i + t.size ≤ s.size ∧ ∀ j, j < t.size → bt t j = bt s (i + j) := by
  have ls : s.data.toList.length = s.size := by simp
  have lt : t.data.toList.length = t.size := by simp
  rw [List.isPrefixOf_iff_prefix, List.prefix_iff_eq_take]
  constructor
  · intro h
    have hl := congrArg List.length h
    rw [List.length_take, List.length_drop, ls, lt] at hl
    refine ⟨by omega, fun j hj => ?_⟩
    unfold bt
    rw [List.getD_eq_getElem?_getD, List.getD_eq_getElem?_getD, h, List.getElem?_take, if_pos (by rw [lt]; exact hj), List.getElem?_drop]
  · rintro ⟨h1, h2⟩
    refine List.ext_getElem (by rw [List.length_take, List.length_drop, ls, lt]; omega) fun j h3 h4 => ?_
    have h5 := h2 j (by omega)
    unfold bt at h5
    rw [List.getD_eq_getElem?_getD, List.getD_eq_getElem?_getD, List.getElem?_eq_getElem h3, List.getElem?_eq_getElem (show i + j < s.data.toList.length by omega)] at h5
    rw [List.getElem_take, List.getElem_drop]
    exact UInt8.toNat_inj.1 h5

theorem contains_iff {s t : ByteArray} : Lib.contains s.data.toList t.data.toList = true ↔ ∃ i, i + t.size ≤ s.size ∧ ∀ j, j < t.size → bt t j = bt s (i + j) := by
  have ls : s.data.toList.length = s.size := by simp
  unfold Lib.contains
  rw [decide_eq_true_eq, index_iff, ls]
  constructor
  · rintro ⟨i, h1, h2⟩; exact ⟨i, (pre_iff h1).1 h2⟩
  · rintro ⟨i, h1, h2⟩; exact ⟨i, by omega, (pre_iff (by omega)).2 ⟨h1, h2⟩⟩

/-- Twice a text has each of its turns, and no other text of its length. -/
theorem contains_turn {a b : ByteArray} (h : a.size = b.size) : Lib.contains (a ++ a).data.toList b.data.toList = true ↔ ∃ i, i ≤ a.size ∧ b = turnB a i := by
  have hbt : ∀ i j, i ≤ a.size → j < a.size → bt (a ++ a) (i + j) = rot (bt a) a.size i j := fun i j hi hj => by
    unfold rot
    rw [bt_append]
    split
    · rw [Nat.mod_eq_of_lt (by omega)]
    · rw [show i + j = i + j - a.size + a.size from by omega, Nat.add_mod_right, Nat.mod_eq_of_lt (by omega), Nat.add_sub_cancel]
  rw [contains_iff, ByteArray.size_append]
  constructor
  · rintro ⟨i, h1, h2⟩
    have hi : i ≤ a.size := by omega
    refine ⟨i, hi, ext_bt (by rw [turnB_size hi, h]) fun j hj => ?_⟩
    rw [turnB_bt hi j (by omega), h2 j hj, hbt i j hi (by omega)]
  · rintro ⟨i, hi, h2⟩
    refine ⟨i, by omega, fun j hj => ?_⟩
    rw [hbt i j hi (by omega), h2, turnB_bt hi j (by omega)]

/-- internal/bytealg.MaxLen holds some number. -/
def HasMax (w : World) : Prop := ∃ m : Int, w.cell? ⟨1, 0, none⟩ = some (.int .i64 m)

theorem HasMax.below {w w' : World} (h : HasMax w) (hb : Below w.heap.size w w') : HasMax w' := by
  obtain ⟨m, hm⟩ := h
  exact ⟨m, (hb.cell (World.block_lt_of_cell? w _ hm)).trans hm⟩

set_option maxHeartbeats 400000 in
theorem same_bad (w : World) (a b : ByteArray) (h : 24 < a.size ∨ 24 < b.size) (ha : a.size ≤ maxLen) (hb : b.size ≤ maxLen) :
    Calls Tryd.prog 43 #[.string a, .string b] w fun e w' => e = .returned (.tuple #[.bool false, errv 4]) ∧ Below w.heap.size w w' := by
  have H := hid h
  clear h
  go_enter Tryd.func43, Tryd.ntmps43
  go_wp2_with (go_at_call 63; refine (long2_bad _ a b H.out ha hb).mono ?_; rintro e w' ⟨rfl, rfl⟩)
  go_ret2
  exact ⟨rfl, (Below.refl _ _).alloc (Nat.le_refl _) _⟩

set_option maxHeartbeats 400000 in
theorem same_ok (w : World) (a b : ByteArray) (ha : a.size ≤ 24) (hb : b.size ≤ 24) (hM : HasMax w) (x : Bool) (hx : x = true ↔ ∃ i, i ≤ a.size ∧ b = turnB a i) :
    Calls Tryd.prog 43 #[.string a, .string b] w fun e w' => e = .returned (.tuple #[.bool x, .nilIface]) ∧ Below w.heap.size w w' := by
  obtain ⟨m, hm⟩ := hM
  have hm' : (w.alloc (.cells #[.string a, .string b] 9)).cell? ⟨1, 0, none⟩ = some (.int .i64 m) := ((Below.refl w.heap.size w).alloc (Nat.le_refl _) _).cell (World.block_lt_of_cell? w _ hm) |>.trans hm
  have Hm := hid hm'
  clear hm hm'
  by_cases h : a.size = b.size
  · have hz : (a ++ a).size < 4294967281 := by rw [ByteArray.size_append]; omega
    have hcon : Lib.contains (a ++ a).data.toList b.data.toList = x := by
      have h1 := contains_turn h
      cases x
      · cases e : Lib.contains (a ++ a).data.toList b.data.toList
        · rfl
        · exact absurd (hx.2 (h1.1 e)) (by decide)
      · exact h1.2 (hx.1 rfl)
    have hcall := hid (Tryd.strings_Contains (a ++ a) b m _ hz Hm.out)
    rw [hcon] at hcall
    have e1 : ((a.size : Int) == b.size) = true := by rw [beq_iff_eq]; omega
    clear hx h hcon hz
    go_enter Tryd.func43, Tryd.ntmps43
    go_wp2_with (first
      | (go_at_call 63; refine (long2_ok _ a b ha hb).mono ?_; rintro e w' ⟨rfl, rfl⟩)
      | (go_at_call 71; refine hcall.out.mono ?_; rintro e w' ⟨rfl, rfl⟩))
    go_ret2
    exact ⟨rfl, (Below.refl _ _).alloc (Nat.le_refl _) _⟩
  · have hxf : x = false := by
      cases x
      · rfl
      · obtain ⟨i, h1, h2⟩ := hx.1 rfl
        exact absurd (by rw [h2, turnB_size h1]) h
    have e1 : ((a.size : Int) == b.size) = false := by rw [beq_eq_false_iff_ne]; omega
    subst hxf
    clear hx h
    go_enter Tryd.func43, Tryd.ntmps43
    go_wp2_with (go_at_call 63; refine (long2_ok _ a b ha hb).mono ?_; rintro e w' ⟨rfl, rfl⟩)
    go_ret2
    exact ⟨rfl, (Below.refl _ _).alloc (Nat.le_refl _) _⟩

/-! The least turn, reckoned. -/
def rltB (f : Nat → Nat) (n i j : Nat) : Bool := (List.range n).any fun l => (List.range l).all (fun x => rot f n i x == rot f n j x) && decide (rot f n i l < rot f n j l)

theorem rltB_iff {f : Nat → Nat} {n i j : Nat} : rltB f n i j = true ↔ RLt f n i j := by
  unfold rltB RLt
  simp only [List.any_eq_true, List.mem_range, Bool.and_eq_true, List.all_eq_true, beq_iff_eq, decide_eq_true_eq]

def leastB (f : Nat → Nat) (n r : Nat) : Bool := decide (r < n) && (List.range n).all (fun t => !rltB f n t r) && (List.range r).all fun t => rltB f n r t

theorem leastB_ok {f : Nat → Nat} {n r : Nat} (h : leastB f n r = true) : IsLeast f n r := by
  unfold leastB at h
  simp only [Bool.and_eq_true, List.all_eq_true, List.mem_range, decide_eq_true_eq, Bool.not_eq_true'] at h
  refine ⟨h.1.1, fun t ht hlt => ?_, fun t ht => rltB_iff.1 (h.2 t ht)⟩
  have := h.1.2 t ht
  rw [rltB_iff.2 hlt] at this; cases this

end Go.Proofs.YtknecfgacnknlaaDoor

/- find.Apart: how many places of a word have nothing in common, from the first one on; letterbecklaw1.findFact. -/
import Derived.Test.YtknecfgacnknlaaDoorFind
import Derived.Test.YtknecfgacnknlaaDoorApartPlain
import Derived.Test.YtknecfgacnknlaaDoorIntsNew
namespace Go.Proofs.YtknecfgacnknlaaDoor
set_option linter.unusedVariables false
set_option linter.unusedSimpArgs false
open Go.RowKit

set_option maxHeartbeats 400000 in
theorem findApart_err (w : World) (t s : ByteArray) (x : Int) (h : Hid (∀ w, Calls Tryd.prog 27 #[.string t, .string s] w fun e w' => e = .returned (errv x) ∧ Below w.heap.size w w')) :
    Calls Tryd.prog 30 #[.string t, .string s] w fun e w' => e = .returned (.tuple #[.int .i64 0, errv x]) ∧ Below w.heap.size w w' := by
  go_enter Tryd.func30, Tryd.ntmps30
  go_wp2_with fail
  refine (findAll_err _ t s x h).mono ?_
  rintro e w' ⟨rfl, hb⟩
  go_wp2
  go_ret2
  exact ⟨rfl, hb⟩

set_option maxHeartbeats 400000 in
theorem findApart_ok (w : World) (t s : ByteArray) (ht : t.size ≤ 24) (hs : s.size ≤ 24) (hpos : 0 < s.size) (r : Int) (hr : Hid (apart s.size (posI (bt s) s.size (bt t) t.size) = r)) :
    Calls Tryd.prog 30 #[.string t, .string s] w fun e w' => e = .returned (.tuple #[.int .i64 r, .nilIface]) ∧ Below w.heap.size w w' := by
  have hlen := pos_len (bt s) s.size (bt t) t.size
  have hlen' := posI_len (bt s) s.size (bt t) t.size
  have hbd0 : ∀ (j : Nat) (x : Int), (posI (bt s) s.size (bt t) t.size)[j]? = some x → 0 ≤ x ∧ x ≤ 24 := fun j x h => posI_bd hpos ht h
  have Hap := hid (apTo_bd (n := s.size) ⟨by omega, by omega⟩ hbd0)
  have Hbd := hid hbd0
  have Hcall := hid (fun w => findAll_ok w t s ht hs hpos)
  clear hbd0
  generalize posI (bt s) s.size (bt t) t.size = L at *
  rw [← hlen'] at hlen
  clear hlen'
  go_enter Tryd.func30, Tryd.ntmps30
  go_wp2_with fail
  refine (Hcall.out _).mono ?_
  rintro e w1 ⟨A, c, rfl, ho1, hb1⟩
  go_wp2_with fail
  have hsl := ho1.sl
  go_loop [8, 9, 23] (fun a b i => ∃ (j : Nat) (x y : Int), j ≤ L.length ∧ i = .int .i64 j ∧ a = .int .i64 x ∧ b = .int .i64 y ∧ 0 ≤ x ∧ x ≤ 24 ∧ 0 ≤ y ∧ y ≤ 48 ∧ Hid (apTo s.size L j = (x, y))) (fun _ _ i => L.length - (intOf i).toNat)
  case atStart => exact ⟨0, 0, 0, Nat.zero_le _, rfl, rfl, rfl, by omega, by omega, by omega, by omega, rfl⟩
  case round =>
    obtain ⟨j, x, y, hj, rfl, rfl, rfl, hx0, hx1, hy0, hy1, hst⟩ := hrel
    by_cases hlt : j < L.length
    · obtain ⟨g, o, hA, hg, hc⟩ := hsl (ints_ne (by omega))
      subst hA
      obtain ⟨z, hz⟩ : ∃ z, L[j]? = some z := ⟨_, List.getElem?_eq_getElem hlt⟩
      have q1 := hc _ _ (ints_get' hz)
      have hzb := Hbd.out _ _ hz
      have hnx := apTo_step (n := (s.size : Int)) hz
      rw [hst.out] at hnx
      have hbb := Hap.out (j + 1) hlt
      have Hnx := hid hnx
      clear hc hz hnx
      by_cases hle : y ≤ z
      · have hn2 : apTo s.size L (j + 1) = (x + 1, z + s.size) := by rw [Hnx.out]; unfold apStep; rw [if_pos hle]
        rw [hn2] at hbb
        have Hn2 := hid hn2
        simp only at hbb
        clear hn2
        go_wp2
        go_round
        case rel => exact ⟨j + 1, x + 1, z + s.size, hlt, by go_num, by go_num, by go_num, by omega, by omega, by omega, by omega, Hn2⟩
        case measure => simp [intOf]; omega
      · have hn2 : apTo s.size L (j + 1) = (x, y) := by rw [Hnx.out]; unfold apStep; rw [if_neg hle]
        have Hn2 := hid hn2
        clear hn2 hbb
        have e1 : decide (y ≤ z) = false := by simp; omega
        go_wp2
        go_round
        case rel => exact ⟨j + 1, x, y, hlt, by go_num, rfl, rfl, by omega, by omega, by omega, by omega, Hn2⟩
        case measure => simp [intOf]; omega
    · have hjl : j = L.length := by omega
      have hr2 : r = x := by
        have := hr.out
        unfold apart at this
        rw [← hjl, hst.out] at this
        exact this.symm
      subst hr2
      clear hjl
      go_wp2
      go_ret2
      exact ⟨rfl, hb1⟩

end Go.Proofs.YtknecfgacnknlaaDoor

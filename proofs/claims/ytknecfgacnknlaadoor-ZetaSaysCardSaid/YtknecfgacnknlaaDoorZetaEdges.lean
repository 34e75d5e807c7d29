/- zeta.Edges: all borders but the empty one, rising; else nil and ErrFull. -/
import Derived.Test.YtknecfgacnknlaaDoorZetaOf
import Derived.Test.YtknecfgacnknlaaDoorPerPlain
namespace Go.Proofs.YtknecfgacnknlaaDoor
set_option linter.unusedVariables false
set_option linter.unusedSimpArgs false
open Go.RowKit

set_option maxHeartbeats 400000 in
theorem zetaEdges_bad (w : World) (s : ByteArray) (hs : 24 < s.size) (hm : s.size ≤ maxLen) :
    Calls Tryd.prog 22 #[.string s] w fun e w' => e = .returned (.tuple #[.slice none 0 0, errv 4]) ∧ Below w.heap.size w w' := by
  go_enter Tryd.func22, Tryd.ntmps22
  go_wp2_with (go_at_call 21; refine (zetaOf_bad _ s hs hm).mono ?_; rintro e w' ⟨rfl, hb⟩)
  go_ret2
  exact ⟨rfl, hb⟩

set_option maxHeartbeats 400000 in
theorem zetaEdges_ok (w : World) (s : ByteArray) (hs : s.size ≤ 24) :
    Calls Tryd.prog 22 #[.string s] w (RetInts w (edgesAll (bt s) s.size)) := by
  go_enter Tryd.func22, Tryd.ntmps22
  go_wp2_with (go_at_call 21; refine (zetaOf_ok _ s hs).mono ?_; rintro e w1 ⟨A, c, rfl, ho1, hb1⟩)
  have hsl := ho1.sl
  have hw1 := hb1.size
  go_loopw [6, 7] (fun v t wr => ∃ m : Nat, 0 < m ∧ (m ≤ s.size ∨ m = 1) ∧ t = .int .i64 ((s.size : Int) - m) ∧ Own wr w1.heap.size v (edgesLow (bt s) s.size m) ∧ Below w1.heap.size w1 wr) (fun _ t _ => (intOf t).toNat)
  case atStart => exact ⟨1, by omega, .inr rfl, rfl, by rw [edgesLow_one]; exact Own.nil _ _, Below.refl _ _⟩
  case round =>
    obtain ⟨m, hm, hms, rfl, ho, hb⟩ := hrel
    have hlen := edgesLow_len (bt s) s.size m
    have hwr := hb.size
    by_cases hpos : m < s.size
    · obtain ⟨g, o, hA, hg, hc⟩ := hsl (ints_ne (by rw [zOf_len]; omega))
      subst hA
      have hcell : Hid (∀ w', Below w1.heap.size w1 w' → w'.cell? ⟨g, o + (s.size - m), none⟩ = some (.int .i64 (zf (bt s) s.size (s.size - m)))) := fun w' h =>
        (h.cell (p := ⟨g, o + (s.size - m), none⟩) hg).trans (hc _ _ (ints_get' (zOf_get (bt s) s.size (s.size - m) (by omega))))
      have q1 := hcell.out _ hb
      clear hc
      have hz := zf_bdr (f := bt s) (n := s.size) hm hpos
      have hzz := zf_le (bt s) s.size (s.size - m)
      by_cases hf : Bdr (bt s) s.size m
      · have hzm := hz.2 hf
        rw [hzm] at q1 hcell
        have hstep := hid (edgesLow_hit hm hf)
        have e1 : ((m : Int) == m) = true := by simp
        clear hz hzm hzz hf
        go_wp2_with (first
          | (at_builtin; refine wp_append_int _ rfl _ _ rfl w1.heap.size _ _ rfl (ho.alloc _) _ _ (m : Int) rfl (by simp) (by omega) (by simp; omega) ?_; intro v' w2 ho2 hg2; have hb2 : Below w1.heap.size w1 w2 := (hb.alloc hwr _).grown hg2 (by simp; omega) (fun k hk => (ho.lt k hk).1)))
        go_roundw
        case rel => exact ⟨m + 1, by omega, .inl (by omega), by go_num, by rw [hstep.out]; exact ho2, hb2⟩
        case measure => simp [intOf]; omega
      · have hstep := hid (edgesLow_miss (m := m) hf)
        have hzm : ¬ zf (bt s) s.size (s.size - m) = m := fun h => hf (hz.1 h)
        generalize zf (bt s) s.size (s.size - m) = z at q1 hcell hzm hzz
        have e1 : ((z : Int) == m) = false := by simp; omega
        clear hz hf hzm
        go_wp2
        go_roundw
        case rel => exact ⟨m + 1, by omega, .inl (by omega), by go_num, by rw [hstep.out]; exact ho, hb⟩
        case measure => simp [intOf]; omega
    · have hend := edgesLow_all (f := bt s) (n := s.size) (m := m) (by omega)
      rw [hend] at ho
      obtain ⟨A', c', hv⟩ := ho.shape
      subst hv
      go_wp2
      go_ret2
      exact ⟨A', c', rfl, ho.mono hw1, bch hb1 hb⟩
end Go.Proofs.YtknecfgacnknlaaDoor

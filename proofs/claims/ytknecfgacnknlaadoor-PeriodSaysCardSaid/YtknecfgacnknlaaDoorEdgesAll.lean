/- edges.All: for a text of at most 24 bytes all its borders but the empty one, rising; else nil and ErrFull. -/
import Derived.Test.YtknecfgacnknlaaDoorEdgesOf
import Derived.Test.YtknecfgacnknlaaDoorReverse
namespace Go.Proofs.YtknecfgacnknlaaDoor
set_option linter.unusedVariables false
set_option linter.unusedSimpArgs false
open Go.RowKit

set_option maxHeartbeats 400000 in
theorem edgesAll_bad (w : World) (s : ByteArray) (hs : 24 < s.size) (hm : s.size ≤ maxLen) :
    Calls Tryd.prog 19 #[.string s] w fun e w' => e = .returned (.tuple #[.slice none 0 0, errv 4]) ∧ Below w.heap.size w w' := by
  go_enter Tryd.func19, Tryd.ntmps19
  go_wp2_with (go_at_call 16; refine (edgesOf_bad _ s hs hm).mono ?_; rintro e w' ⟨rfl, hb⟩)
  go_ret2
  exact ⟨rfl, hb⟩

theorem edgesAll_ret {w w1 wr w3 : World} {A : Option Addr} {c : Nat} {l l' : List Int} (hb1 : Below w.heap.size w w1) (hb : Below w1.heap.size w1 wr) (ho : Own wr w1.heap.size (.slice A l.length c) l)
    (ho3 : Own w3 w1.heap.size (.slice A l.length c) l.reverse) (hg3 : wr.grownBy w3 (Value.slice A l.length c).ownBlock) (hend : l.reverse = l') :
    RetInts w l' (.returned (.tuple #[.slice A l.length c, .nilIface])) w3 := by
  subst hend
  have h1 := hb1.size
  have h2 := hb.size
  exact ⟨A, c, by simp, by rw [List.length_reverse]; exact ho3.mono h1,
    (hb1.trans (hb.mono h1)).grown hg3 (by omega) (fun k hk => Nat.le_trans h1 (ho.lt k hk).1)⟩

set_option maxHeartbeats 400000 in
theorem edgesAll_ok (w : World) (s : ByteArray) (hs : s.size ≤ 24) :
    Calls Tryd.prog 19 #[.string s] w (RetInts w (edgesAll (bt s) s.size)) := by
  go_enter Tryd.func19, Tryd.ntmps19
  go_wp2_with (go_at_call 16; refine (edgesOf_ok _ s hs).mono ?_; rintro e w1 ⟨A, c, rfl, ho1, hb1⟩)
  have hsl := ho1.sl
  have hw1 := hb1.size
  go_loopw [6, 7] (fun v t wr => ∃ q : Nat, q ≤ s.size ∧ t = .int .i64 q ∧ Hid (q = s.size ∨ Bdr (bt s) s.size q) ∧ Hid (0 < q ∨ s.size = 0) ∧ Own wr w1.heap.size v (edgesDown (bt s) s.size q) ∧ Below w1.heap.size w1 wr) (fun _ t _ => (intOf t).toNat)
  case atStart => exact ⟨s.size, Nat.le_refl _, rfl, hid (.inl rfl), hid (Nat.eq_zero_or_pos _).symm, by rw [edgesDown_start]; exact Own.nil _ _, Below.refl _ _⟩
  case round =>
    obtain ⟨q, hq, rfl, hbd, hpz, ho, hb⟩ := hrel
    have hlen := edgesDown_len (bt s) s.size q
    have hwr := hb.size
    by_cases hpos : 0 < q
    · obtain ⟨g, o, hA, hg, hc⟩ := hsl (ints_ne (by rw [edgesOf_len]; exact Nat.lt_of_lt_of_le hpos hq))
      subst hA
      have hcell : Hid (∀ w', Below w1.heap.size w1 w' → w'.cell? ⟨g, o + (q - 1), none⟩ = some (.int .i64 (fail (bt s) q))) := fun w' h =>
        (h.cell (p := ⟨g, o + (q - 1), none⟩) hg).trans (hc _ _ (ints_get' (edgesOf_get (bt s) s.size q hpos hq)))
      have q1 := hcell.out _ hb
      clear hc
      by_cases hf : 0 < fail (bt s) q
      · have hflt := fail_lt (f := bt s) hpos
        have hstep := hid (edgesDown_step hbd.out hpos hf)
        go_wp2_with (first
          | (at_builtin; refine wp_append_int _ rfl _ _ rfl w1.heap.size _ _ rfl (ho.alloc _) _ _ (fail (bt s) q) rfl (by simp) (by omega) (by simp; omega) ?_; intro v' w2 ho2 hg2; have hb2 : Below w1.heap.size w1 w2 := (hb.alloc hwr _).grown hg2 (by simp; omega) (fun k hk => (ho.lt k hk).1); have q2 := hcell.out _ hb2))
        go_roundw
        case rel =>
          refine ⟨fail (bt s) q, by omega, rfl, hid (.inr ?_), hid (.inl hf), by rw [hstep.out]; exact ho2, hb2⟩
          rcases hbd.out with e | e
          · rw [← e]; exact fail_bdr hpos
          · exact bdr_trans e (fail_bdr hpos)
        case measure => simp [intOf]; omega
      · have hend := edgesDown_end hbd.out (.inr (Nat.eq_zero_of_not_pos hf))
        obtain ⟨A', c', hv⟩ := ho.shape
        subst hv
        go_wp2_with (go_at_call 65; refine (reverse_any _ w1.heap.size _ _ _ ho (by omega)).mono ?_; rintro e w3 ⟨rfl, ho3, hg3⟩)
        go_ret2
        exact edgesAll_ret hb1 hb ho ho3 hg3 hend
    · have hend := edgesDown_end hbd.out (.inl (Nat.eq_zero_of_not_pos hpos))
      obtain ⟨A', c', hv⟩ := ho.shape
      subst hv
      go_wp2_with (go_at_call 65; refine (reverse_any _ w1.heap.size _ _ _ ho (by omega)).mono ?_; rintro e w3 ⟨rfl, ho3, hg3⟩)
      go_ret2
      exact edgesAll_ret hb1 hb ho ho3 hg3 hend
end Go.Proofs.YtknecfgacnknlaaDoor

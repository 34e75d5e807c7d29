/- letterbecklaw1.EdgesSays returns true at every text: the walk. -/
import Derived.Test.YtknecfgacnknlaaDoorEdgesRef
import Derived.Test.YtknecfgacnknlaaDoorEdgesAll
import Derived.Test.YtknecfgacnknlaaDoorInts
namespace Go.Proofs.YtknecfgacnknlaaDoor
set_option linter.unusedVariables false
set_option linter.unusedSimpArgs false
open Go.RowKit

theorem edgesOf_step (f : Nat → Nat) (m : Nat) : edgesOf f (m + 1) = edgesOf f m ++ [(fail f (m + 1) : Int)] := by
  unfold edgesOf; rw [List.range_succ, List.map_append]; rfl

/-- The last border of a beginning. -/
theorem edges_pre (s : ByteArray) (k : Nat) (hk : k ≤ s.size) : (s.extract 0 k).size = k ∧ edgesAll (bt (s.extract 0 k)) (s.extract 0 k).size = edgesAll (bt s) k := by
  have hz : (s.extract 0 k).size = k := by simp; omega
  refine ⟨hz, ?_⟩
  rw [hz]
  exact edgesAll_congr fun j hj => by rw [bt_extract _ _ _ _ (by omega), Nat.zero_add]

theorem edgesAll_len' (f : Nat → Nat) (n : Nat) : (edgesAll f n).length ≤ n := edgesAll_len f n

set_option maxRecDepth 100000 in
set_option maxHeartbeats 1000000 in
theorem walk_edgesSays (a0 : ByteArray) (w0 : a0.size ≤ maxLen) (W : World) (hET : HasET W) :
    Calls Tryd.prog 3 #[.string a0] W fun e w' => e = .returned (.bool true) ∧ Below W.heap.size W w' := by
  have HT := hid (fun w (h : Below W.heap.size W w) => hET.below h)
  clear hET
  by_cases hs : a0.size ≤ 24
  · have Hof := hid (fun w => edgesOf_ok w a0 hs)
    have Hall := hid (fun w => edgesAll_ok w a0 hs)
    have Hrf := hid (fun w => edgesRef_any w a0 hs)
    have hl1 := edgesOf_len (bt a0) a0.size
    have hl2 := edgesAll_len (bt a0) a0.size
    have Hl1 := hid hl1
    have Hstep := hid (fun m => edgesOf_step (bt a0) m)
    go_enter Tryd.func3, Tryd.ntmps3
    go_wp2_with fail
    refine (lawLong_ok _ a0 hs).mono ?_
    rintro e w1 ⟨rfl, rfl⟩
    go_wp2_with fail
    go_loopw [4, 6] (fun v t wr => ∃ m : Nat, m ≤ a0.size ∧ t = .int .i64 ((m : Int) + 1) ∧ Own wr W.heap.size v (edgesOf (bt a0) m) ∧ Below W.heap.size W wr) (fun _ t _ => 26 - (intOf t).toNat)
    case atStart => exact ⟨0, by omega, rfl, Own.nil _ _, Below.refl _ _⟩
    case round =>
      obtain ⟨m, hm, rfl, ho, hb⟩ := hrel
      have hlen := edgesOf_len (bt a0) m
      have hwr := hb.size
      by_cases hlt : m < a0.size
      · have hlt' : (m : Int) + 1 ≤ a0.size := by omega
        obtain ⟨P, hP, hPn⟩ : ∃ P : Nat, (m : Int) + 1 = P ∧ P = m + 1 := ⟨m + 1, by omega, rfl⟩
        have hP2 : P ≤ a0.size := by omega
        have hP3 : (P : Int) ≤ a0.size := by omega
        obtain ⟨hz, hpre⟩ := edges_pre a0 P hP2
        have Hr := hid (fun w => edgesRef_any w (a0.extract 0 P) (by omega))
        rw [hpre] at Hr
        have hlP := edgesAll_len (bt a0) P
        have Hfl := hid (edgesAll_last (f := bt a0) (n := P))
        have Hst := hid (Hstep.out m)
        rw [← hPn] at Hst
        generalize edgesAll (bt a0) P = E at *
        clear hz hpre hPn
        rw [hP]
        go_wp2_with fail
        refine (Hr.out _).mono ?_
        rintro e w2 ⟨A2, c2, rfl, ho2, hb2⟩
        have hls := last_any w2 A2 c2 _ E _ ho2.sl rfl (by omega)
        have Hls := hid hls
        rw [Hfl.out] at Hls
        have ho' := ho.below hb2
        have hb' := bch hb hb2
        have hwr2 := hb'.size
        clear hls ho2 hb2 hb ho
        go_wp2_with fail
        refine Hls.out.mono ?_
        rintro e w3 ⟨rfl, rfl⟩
        go_wp2_with (first
          | (at_builtin; go_must (refine wp_append_int _ rfl _ _ rfl W.heap.size _ _ rfl (ho'.alloc _) _ _ (fail (bt a0) P : Int) rfl (by simp) (by omega) (by simp; omega) ?_); intro v' w4 ho4 hg4; have hb4 : Below W.heap.size W w4 := (hb'.alloc hwr2 _).grown hg4 (by simp; omega) (fun k hk => (ho'.lt k hk).1)))
        go_roundw
        case rel => exact ⟨P, by omega, by go_num, by rw [Hst.out]; exact ho4, hb4⟩
        case measure => simp [intOf]; omega
      · have hlt' : ¬ (m : Int) + 1 ≤ a0.size := by omega
        have hmn : m = a0.size := by omega
        rw [hmn] at ho
        obtain ⟨A1, c1, hv⟩ := ho.shape
        rw [edgesOf_len] at hv
        subst hv
        clear hmn
        go_wp2_with fail
        refine (Hrf.out _).mono ?_
        rintro e w2 ⟨A2, c2, rfl, ho2, hb2⟩
        go_wp2_with fail
        refine (Hof.out _).mono ?_
        rintro e w3 ⟨A3, c3, rfl, ho3, hb3⟩
        rw [Hl1.out] at ho3 ⊢
        have hB3 := bch (bch hb hb2) hb3
        go_wp2_with fail
        refine (error_ok _ _ 0 (HT.out _ hB3) (.inl ⟨rfl, rfl⟩)).mono ?_
        rintro e w4 ⟨rfl, hb4⟩
        have hs1 := ((((ho.below hb2).below hb3).below hb4).slB w4.heap.size (Nat.le_refl _))
        have hs3 := (ho3.below hb4).slB w4.heap.size (Nat.le_refl _)
        have hB4 := bch hB3 hb4
        have ho2' := (ho2.below hb3).below hb4
        have hi := hid (ints_eq w4 A3 A1 c3 c1 a0.size a0.size _ _ _ hs3 hs1 (edgesOf_len _ _) (edgesOf_len _ _) (by omega) (by omega) true (by simp))
        clear ho ho2 ho3 hb hb2 hb3 hb4 hs1 hs3 hB3
        go_wp2_with fail
        refine hi.out.mono ?_
        rintro e w5 ⟨rfl, hb5⟩
        go_wp2_with fail
        refine (Hall.out _).mono ?_
        rintro e w6 ⟨A6, c6, rfl, ho6, hb6⟩
        have hB6 := bch (bch hB4 hb5) hb6
        go_wp2_with fail
        refine (error_ok _ _ 0 (HT.out _ hB6) (.inl ⟨rfl, rfl⟩)).mono ?_
        rintro e w7 ⟨rfl, hb7⟩
        have hs2 := ((((ho2'.below hb5).below hb6).below hb7).slB w7.heap.size (Nat.le_refl _))
        have hs6 := (ho6.below hb7).slB w7.heap.size (Nat.le_refl _)
        have hi2 := hid (ints_eq w7 A6 A2 c6 c2 _ _ _ _ _ hs6 hs2 rfl rfl (by omega) (by omega) true (by simp))
        have hB7 := bch hB6 hb7
        clear hs2 hs6 ho2' ho6 hb5 hb6 hb7 hB4 hB6
        go_wp2_with fail
        refine hi2.out.mono ?_
        rintro e w8 ⟨rfl, hb8⟩
        go_wp2
        go_ret
        exact ⟨rfl, bch hB7 hb8⟩
  · go_enter Tryd.func3, Tryd.ntmps3
    go_wp2_with fail
    refine (lawLong_bad _ a0 (by omega)).mono ?_
    rintro e w1 ⟨rfl, rfl⟩
    go_wp2_with fail
    go_loopw [4, 6] (fun v t wr => v = .slice none 0 0 ∧ t = .int .i64 1 ∧ wr = W) (fun _ _ _ => 0)
    case atStart => exact ⟨rfl, rfl, rfl⟩
    case round =>
      obtain ⟨rfl, rfl, rfl⟩ := hrel
      have hge : (1 : Int) ≤ a0.size := by omega
      go_wp2_with fail
      refine (edgesOf_bad _ a0 (by omega) w0).mono ?_
      rintro e w3 ⟨rfl, hb3⟩
      go_wp2_with fail
      refine (error_ok _ _ 4 (HT.out _ hb3) (.inr rfl)).mono ?_
      rintro e w4 ⟨rfl, hb4⟩
      have hi := hid (ints_eq w4 none none 0 0 0 0 [] [] 0 Sl.nil Sl.nil rfl rfl (by decide) (by decide) true (by decide))
      have hB4 := bch hb3 hb4
      go_wp2_with fail
      refine hi.out.mono ?_
      rintro e w5 ⟨rfl, hb5⟩
      go_wp2_with fail
      refine (edgesAll_bad _ a0 (by omega) w0).mono ?_
      rintro e w6 ⟨rfl, hb6⟩
      have hB6 := bch (bch hB4 hb5) hb6
      go_wp2_with fail
      refine (error_ok _ _ 4 (HT.out _ hB6) (.inr rfl)).mono ?_
      rintro e w7 ⟨rfl, hb7⟩
      have hi2 := hid (ints_eq w7 none none 0 0 0 0 [] [] 0 Sl.nil Sl.nil rfl rfl (by decide) (by decide) true (by decide))
      go_wp2_with fail
      refine hi2.out.mono ?_
      rintro e w8 ⟨rfl, hb8⟩
      go_wp2
      go_ret
      exact ⟨rfl, bch (bch hB6 hb7) hb8⟩
end Go.Proofs.YtknecfgacnknlaaDoor

/- letterbecklaw1.ZetaSays returns true at every text: the walk. -/
import Derived.Test.YtknecfgacnknlaaDoorEdgesRef
import Derived.Test.YtknecfgacnknlaaDoorZetaEdges
import Derived.Test.YtknecfgacnknlaaDoorAlike
import Derived.Test.YtknecfgacnknlaaDoorInts
namespace Go.Proofs.YtknecfgacnknlaaDoor
set_option linter.unusedVariables false
set_option linter.unusedSimpArgs false
open Go.RowKit

theorem zOf_cut (f : Nat → Nat) (n m : Nat) (h : m < n) : (zOf f n).take (m + 1) = (zOf f n).take m ++ [(zf f n m : Int)] := by
  have h1 := zOf_get f n m h
  obtain ⟨h2, h3⟩ := List.getElem?_eq_some_iff.1 h1
  rw [List.take_succ_eq_append_getElem h2, h3]

theorem zf_al (s : ByteArray) (k : Nat) (hk : k < s.size) : Al (bt s) (bt (s.extract k s.size)) s.size (s.extract k s.size).size (zf (bt s) s.size k) := by
  have hz : (s.extract k s.size).size = s.size - k := by simp
  have hle := zf_le (bt s) s.size k
  rw [hz]
  refine ⟨by omega, hle, fun j hj => ?_, ?_⟩
  · rw [bt_extract _ _ _ _ (by omega)]; exact zf_same _ _ _ _ hj
  · rintro ⟨h1, h2, h3⟩
    rw [bt_extract _ _ _ _ (by omega)] at h3
    exact zf_stop (bt s) s.size k (by omega) h3

set_option maxRecDepth 100000 in
set_option maxHeartbeats 1000000 in
theorem walk_zetaSays (a0 : ByteArray) (w0 : a0.size ≤ maxLen) (W : World) (hET : HasET W) :
    Calls Tryd.prog 4 #[.string a0] W fun e w' => e = .returned (.bool true) ∧ Below W.heap.size W w' := by
  have HT := hid (fun w (h : Below W.heap.size W w) => hET.below h)
  clear hET
  by_cases hs : a0.size ≤ 24
  · have Hof := hid (fun w => zetaOf_ok w a0 hs)
    have Hall := hid (fun w => zetaEdges_ok w a0 hs)
    have Hrf := hid (fun w => edgesRef_any w a0 hs)
    have hl1 := zOf_len (bt a0) a0.size
    have hl2 := edgesAll_len (bt a0) a0.size
    have Hl1 := hid hl1
    have Hstep := hid (fun m h => zOf_cut (bt a0) a0.size m h)
    go_enter Tryd.func4, Tryd.ntmps4
    go_wp2_with fail
    refine (lawLong_ok _ a0 hs).mono ?_
    rintro e w1 ⟨rfl, rfl⟩
    go_wp2_with fail
    go_loopw [4, 6] (fun v t wr => ∃ m : Nat, m ≤ a0.size ∧ t = .int .i64 m ∧ Own wr W.heap.size v ((zOf (bt a0) a0.size).take m) ∧ Below W.heap.size W wr) (fun _ t _ => 26 - (intOf t).toNat)
    case atStart => exact ⟨0, by omega, rfl, Own.nil _ _, Below.refl _ _⟩
    case round =>
      obtain ⟨m, hm, rfl, ho, hb⟩ := hrel
      have hlen : ((zOf (bt a0) a0.size).take m).length ≤ m := by simp; omega
      have hwr := hb.size
      by_cases hlt : m < a0.size
      · have hms : m ≤ a0.size := hm
        have Hr := hid (fun w => alike_any w a0 (a0.extract m a0.size) _ (by omega) (by simp; omega) (zf_al a0 m hlt))
        have Hst := hid (Hstep.out m hlt)
        have hzl := zf_le (bt a0) a0.size m
        generalize zf (bt a0) a0.size m = z at *
        go_wp2_with fail
        refine (Hr.out _).mono ?_
        rintro e w2 ⟨rfl, u, rfl⟩
        go_wp2_with (first
          | (at_builtin; go_must (refine wp_append_int _ rfl _ _ rfl W.heap.size _ _ rfl ((ho.drewN _).alloc _) _ _ (z : Int) rfl (new_one _ _ _ _) (by omega) (by first | omega | (simp; omega) | (simp [World.drewN]; omega)) ?_); intro v' w4 ho4 hg4; have hb4 : Below W.heap.size W w4 := ((below_dn hb _).alloc hwr _).grown hg4 (by first | omega | (simp; omega) | (simp [World.drewN]; omega)) (fun k hk => (ho.lt k hk).1)))
        go_roundw
        case rel => exact ⟨m + 1, by omega, by go_num, by rw [Hst.out]; exact ho4, hb4⟩
        case measure => simp [intOf]; omega
      · have hmn : m = a0.size := by omega
        rw [hmn, List.take_of_length_le (by rw [zOf_len]; omega)] at ho
        obtain ⟨A1, c1, hv⟩ := ho.shape
        rw [zOf_len] at hv
        subst hv
        clear hmn
        go_wp2_with fail
        refine (Hrf.out _).mono ?_
        rintro e w2 ⟨A2, c2, rfl, ho2, hb2⟩
        go_wp2_with fail
        refine (Hof.out _).mono ?_
        rintro e w3 ⟨A3, c3, rfl, ho3, hb3⟩
        rw [Hl1.out] at ho3 ⊢
        have hB3 := bch (bch hb hb2) hb3
        go_wp2_with fail
        refine (error_ok _ _ 0 (HT.out _ hB3) (.inl ⟨rfl, rfl⟩)).mono ?_
        rintro e w4 ⟨rfl, hb4⟩
        have hs1 := ((((ho.below hb2).below hb3).below hb4).slB w4.heap.size (Nat.le_refl _))
        have hs3 := (ho3.below hb4).slB w4.heap.size (Nat.le_refl _)
        have hB4 := bch hB3 hb4
        have ho2' := (ho2.below hb3).below hb4
        have hi := hid (ints_eq w4 A3 A1 c3 c1 a0.size a0.size _ _ _ hs3 hs1 (zOf_len _ _) (zOf_len _ _) (by omega) (by omega) true (by simp))
        clear ho ho2 ho3 hb hb2 hb3 hb4 hs1 hs3 hB3
        go_wp2_with fail
        refine hi.out.mono ?_
        rintro e w5 ⟨rfl, hb5⟩
        go_wp2_with fail
        refine (Hall.out _).mono ?_
        rintro e w6 ⟨A6, c6, rfl, ho6, hb6⟩
        have hB6 := bch (bch hB4 hb5) hb6
        go_wp2_with fail
        refine (error_ok _ _ 0 (HT.out _ hB6) (.inl ⟨rfl, rfl⟩)).mono ?_
        rintro e w7 ⟨rfl, hb7⟩
        have hs2 := ((((ho2'.below hb5).below hb6).below hb7).slB w7.heap.size (Nat.le_refl _))
        have hs6 := (ho6.below hb7).slB w7.heap.size (Nat.le_refl _)
        have hi2 := hid (ints_eq w7 A6 A2 c6 c2 _ _ _ _ _ hs6 hs2 rfl rfl (by omega) (by omega) true (by simp))
        have hB7 := bch hB6 hb7
        clear hs2 hs6 ho2' ho6 hb5 hb6 hb7 hB4 hB6
        go_wp2_with fail
        refine hi2.out.mono ?_
        rintro e w8 ⟨rfl, hb8⟩
        go_wp2
        go_ret
        exact ⟨rfl, bch hB7 hb8⟩
  · go_enter Tryd.func4, Tryd.ntmps4
    go_wp2_with fail
    refine (lawLong_bad _ a0 (by omega)).mono ?_
    rintro e w1 ⟨rfl, rfl⟩
    go_wp2_with fail
    go_loopw [4, 6] (fun v t wr => v = .slice none 0 0 ∧ t = .int .i64 0 ∧ wr = W) (fun _ _ _ => 0)
    case atStart => exact ⟨rfl, rfl, rfl⟩
    case round =>
      obtain ⟨rfl, rfl, rfl⟩ := hrel
      have hge : (0 : Int) < a0.size := by omega
      go_wp2_with fail
      refine (zetaOf_bad _ a0 (by omega) w0).mono ?_
      rintro e w3 ⟨rfl, hb3⟩
      go_wp2_with fail
      refine (error_ok _ _ 4 (HT.out _ hb3) (.inr rfl)).mono ?_
      rintro e w4 ⟨rfl, hb4⟩
      have hi := hid (ints_eq w4 none none 0 0 0 0 [] [] 0 Sl.nil Sl.nil rfl rfl (by decide) (by decide) true (by decide))
      have hB4 := bch hb3 hb4
      go_wp2_with fail
      refine hi.out.mono ?_
      rintro e w5 ⟨rfl, hb5⟩
      go_wp2_with fail
      refine (zetaEdges_bad _ a0 (by omega) w0).mono ?_
      rintro e w6 ⟨rfl, hb6⟩
      have hB6 := bch (bch hB4 hb5) hb6
      go_wp2_with fail
      refine (error_ok _ _ 4 (HT.out _ hB6) (.inr rfl)).mono ?_
      rintro e w7 ⟨rfl, hb7⟩
      have hi2 := hid (ints_eq w7 none none 0 0 0 0 [] [] 0 Sl.nil Sl.nil rfl rfl (by decide) (by decide) true (by decide))
      go_wp2_with fail
      refine hi2.out.mono ?_
      rintro e w8 ⟨rfl, hb8⟩
      go_wp2
      go_ret
      exact ⟨rfl, bch (bch hB6 hb7) hb8⟩
end Go.Proofs.YtknecfgacnknlaaDoor

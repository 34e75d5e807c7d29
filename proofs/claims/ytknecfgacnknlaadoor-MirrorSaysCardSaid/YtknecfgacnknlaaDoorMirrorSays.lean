/- letterbecklaw1.MirrorSays returns true at every text: the walk. -/
import Derived.Test.YtknecfgacnknlaaDoorMirrorsRef
import Derived.Test.YtknecfgacnknlaaDoorMirLongest
import Derived.Test.YtknecfgacnknlaaDoorOwnAt
import Derived.Test.YtknecfgacnknlaaDoorInts
namespace Go.Proofs.YtknecfgacnknlaaDoor
set_option linter.unusedVariables false
set_option linter.unusedSimpArgs false
open Go.RowKit

theorem mAll_cut (f : Nat → Nat) (n e m : Nat) (h : m < n) : (mAll f n e).take (m + 1) = (mAll f n e).take m ++ [(mir f n e m : Int)] := by
  have h1 := mAll_get f n e m h
  obtain ⟨h2, h3⟩ := List.getElem?_eq_some_iff.1 h1
  rw [List.take_succ_eq_append_getElem h2, h3]

/-- What the loop keeps: two lists. -/
def MSays (W : World) (s : ByteArray) (m : Nat) (v v' : Value) (wr : World) : Prop :=
  Own wr W.heap.size v ((mAll (bt s) s.size 0).take m) ∧ Own wr W.heap.size v' ((mAll (bt s) s.size 1).take m) ∧ Disj v v' ∧ Below W.heap.size W wr

set_option maxRecDepth 100000 in
set_option maxHeartbeats 1000000 in
theorem walk_mirrorSays (a0 : ByteArray) (w0 : a0.size ≤ maxLen) (W : World) (hET : HasET W) :
    Calls Tryd.prog 10 #[.string a0] W fun e w' => e = .returned (.bool true) ∧ Below W.heap.size W w' := by
  have HT := hid (fun w (h : Below W.heap.size W w) => hET.below h)
  clear hET
  by_cases hs : a0.size ≤ 24
  · have Hodd := hid (fun w => odd_ok w a0 hs)
    have Heven := hid (fun w => even_ok w a0 hs)
    have Hlong := hid (fun w => longest_ok w a0 hs)
    have Hlref := hid (fun w => longMirror_any w a0 hs)
    have Hm0 := hid (fun w i (h : i < a0.size) => mirrors_any w a0 i false 0 (.inl ⟨rfl, rfl⟩) hs h)
    have Hm1 := hid (fun w i (h : i < a0.size) => mirrors_any w a0 i true 1 (.inr ⟨rfl, rfl⟩) hs h)
    go_enter Tryd.func10, Tryd.ntmps10
    go_wp2_with fail
    refine (lawLong_ok _ a0 hs).mono ?_
    rintro e v1 ⟨rfl, rfl⟩
    go_wp2_with fail
    go_loopw [4, 5, 8] (fun v v' t wr => ∃ m : Nat, m ≤ a0.size ∧ t = .int .i64 m ∧ Hid (MSays W a0 m v v' wr)) (fun _ _ t _ => a0.size - (intOf t).toNat)
    case atStart => exact ⟨0, by omega, rfl, Own.nil _ _, Own.nil _ _, Disj.nil _, Below.refl _ _⟩
    case round =>
      obtain ⟨m, hm, rfl, hMS⟩ := hrel
      by_cases hlt : m < a0.size
      · have Hst0 := hid (mAll_cut (bt a0) a0.size 0 m hlt)
        have Hst1 := hid (mAll_cut (bt a0) a0.size 1 m hlt)
        have Hc0 := hid (fun w => Hm0.out w m hlt)
        have Hc1 := hid (fun w => Hm1.out w m hlt)
        have hz0 := mir_le (bt a0) a0.size 0 m
        have hz1 := mir_le (bt a0) a0.size 1 m
        obtain ⟨ho, ho', hd, hb⟩ := id hMS.out
        have HO' := hid ho'
        have HD := hid hd
        have hwr := hb.size
        have hlen : ((mAll (bt a0) a0.size 0).take m).length ≤ m := by simp; omega
        have hlen' : ((mAll (bt a0) a0.size 1).take m).length ≤ m := by simp; omega
        clear ho' hd hMS
        generalize mir (bt a0) a0.size 0 m = z at *
        generalize mir (bt a0) a0.size 1 m = y at *
        go_wp2_with fail
        refine (Hc0.out _).mono ?_
        rintro e w2 ⟨rfl, u, rfl⟩
        go_wp2_with (first
          | (at_builtin; go_must (refine wp_append_int_at _ rfl _ _ rfl W.heap.size _ _ rfl ((ho.drewN _).alloc _) _ _ (z : Int) rfl (new_one _ _ _ _) (by omega) (by first | omega | (simp; omega) | (simp [World.drewN]; omega)) ?_); intro v2 w4 ho4 hg4 hat4; have hb4 : Below W.heap.size W w4 := ((below_dn hb _).alloc hwr _).grown hg4 (by first | omega | (simp; omega) | (simp [World.drewN]; omega)) (fun k hk => (ho.lt k hk).1); obtain ⟨ho4', hd4⟩ := HD.out.step HO'.out u _ hg4 hat4)
          | fail)
        have hwr4 := hb4.size
        have HO4 := hid ho4
        have HD4 := hid hd4.symm
        clear hg4 hat4 ho HO' HD hb ho4 hd4
        refine (Hc1.out _).mono ?_
        rintro e w5 ⟨rfl, u5, rfl⟩
        go_wp2_with (first
          | (at_builtin; go_must (refine wp_append_int_at _ rfl _ _ rfl W.heap.size _ _ rfl ((ho4'.drewN _).alloc _) _ _ (y : Int) rfl (new_one _ _ _ _) (by omega) (by first | omega | (simp; omega) | (simp [World.drewN]; omega)) ?_); intro v6 w6 ho6 hg6 hat6; have hb6 : Below W.heap.size W w6 := ((below_dn hb4 _).alloc hwr4 _).grown hg6 (by first | omega | (simp; omega) | (simp [World.drewN]; omega)) (fun k hk => (ho4'.lt k hk).1); obtain ⟨ho6', hd6⟩ := HD4.out.step HO4.out u5 _ hg6 hat6))
        go_roundw
        case rel => exact ⟨m + 1, by omega, by go_num, hid ⟨by rw [Hst0.out]; exact ho6', by rw [Hst1.out]; exact ho6, hd6.symm, hb6⟩⟩
        case measure => simp [intOf]; omega
      · have hmn : m = a0.size := by omega
        obtain ⟨ho, ho', _, hb⟩ := hMS.out
        rw [hmn, List.take_of_length_le (by rw [mAll_len]; omega)] at ho ho'
        obtain ⟨A1, c1, hv⟩ := ho.shape
        obtain ⟨A2, c2, hv'⟩ := ho'.shape
        rw [mAll_len] at hv hv'
        subst hv hv'
        clear hmn hMS
        go_wp2_with fail
        refine (Hlref.out _).mono ?_
        rintro e w2 ⟨rfl, u2, rfl⟩
        go_wp2_with fail
        refine (Hodd.out _).mono ?_
        rintro e w3 ⟨A3, c3, rfl, ho3, hb3⟩
        rw [mAll_len] at ho3 ⊢
        have hB3 : Below W.heap.size W w3 := bch (below_dn hb u2) hb3
        go_wp2_with fail
        refine (error_ok _ _ 0 (HT.out _ hB3) (.inl ⟨rfl, rfl⟩)).mono ?_
        rintro e w4 ⟨rfl, hb4⟩
        have hs1 := ((((ho.drewN u2).below hb3).below hb4).slB w4.heap.size (Nat.le_refl _))
        have hs3 := (ho3.below hb4).slB w4.heap.size (Nat.le_refl _)
        have ho2 := ((ho'.drewN u2).below hb3).below hb4
        have hB4 := bch hB3 hb4
        have hi := hid (ints_eq w4 A3 A1 c3 c1 a0.size a0.size _ _ _ hs3 hs1 (mAll_len _ _ _) (mAll_len _ _ _) (by omega) (by omega) true (by simp))
        clear ho ho' ho3 hb hb3 hb4 hs1 hs3 hB3
        go_wp2_with fail
        refine hi.out.mono ?_
        rintro e w5 ⟨rfl, hb5⟩
        go_wp2_with fail
        refine (Heven.out _).mono ?_
        rintro e w6 ⟨A6, c6, rfl, ho6, hb6⟩
        rw [mAll_len] at ho6 ⊢
        have hB6 := bch (bch hB4 hb5) hb6
        go_wp2_with fail
        refine (error_ok _ _ 0 (HT.out _ hB6) (.inl ⟨rfl, rfl⟩)).mono ?_
        rintro e w7 ⟨rfl, hb7⟩
        have hs2 := ((((ho2.below hb5).below hb6).below hb7).slB w7.heap.size (Nat.le_refl _))
        have hs6 := (ho6.below hb7).slB w7.heap.size (Nat.le_refl _)
        have hi2 := hid (ints_eq w7 A6 A2 c6 c2 a0.size a0.size _ _ _ hs6 hs2 (mAll_len _ _ _) (mAll_len _ _ _) (by omega) (by omega) true (by simp))
        have hB7 := bch hB6 hb7
        clear hs2 hs6 ho2 ho6 hb5 hb6 hb7 hB4 hB6
        go_wp2_with fail
        refine hi2.out.mono ?_
        rintro e w8 ⟨rfl, hb8⟩
        go_wp2_with fail
        refine (Hlong.out _).mono ?_
        rintro e w9 ⟨rfl, hb9⟩
        have hB9 := bch (bch hB7 hb8) hb9
        go_wp2_with fail
        refine (error_ok _ _ 0 (HT.out _ hB9) (.inl ⟨rfl, rfl⟩)).mono ?_
        rintro e w10 ⟨rfl, hb10⟩
        go_wp2
        go_ret
        exact ⟨rfl, bch hB9 hb10⟩
  · go_enter Tryd.func10, Tryd.ntmps10
    go_wp2_with fail
    refine (lawLong_bad _ a0 (by omega)).mono ?_
    rintro e v1 ⟨rfl, rfl⟩
    go_wp2_with fail
    go_loopw [4, 5, 8] (fun v v' t wr => v = .slice none 0 0 ∧ v' = .slice none 0 0 ∧ t = .int .i64 0 ∧ wr = W) (fun _ _ _ _ => 0)
    case atStart => exact ⟨rfl, rfl, rfl, rfl⟩
    case round =>
      obtain ⟨rfl, rfl, rfl, rfl⟩ := hrel
      have hge : (0 : Int) < a0.size := by omega
      go_wp2_with fail
      refine (odd_bad _ a0 (by omega) w0).mono ?_
      rintro e w3 ⟨rfl, hb3⟩
      go_wp2_with fail
      refine (error_ok _ _ 4 (HT.out _ hb3) (.inr rfl)).mono ?_
      rintro e w4 ⟨rfl, hb4⟩
      have hi := hid (ints_eq w4 none none 0 0 0 0 [] [] 0 Sl.nil Sl.nil rfl rfl (by decide) (by decide) true (by decide))
      have hB4 := bch hb3 hb4
      go_wp2_with fail
      refine hi.out.mono ?_
      rintro e w5 ⟨rfl, hb5⟩
      go_wp2_with fail
      refine (even_bad _ a0 (by omega) w0).mono ?_
      rintro e w6 ⟨rfl, hb6⟩
      have hB6 := bch (bch hB4 hb5) hb6
      go_wp2_with fail
      refine (error_ok _ _ 4 (HT.out _ hB6) (.inr rfl)).mono ?_
      rintro e w7 ⟨rfl, hb7⟩
      have hi2 := hid (ints_eq w7 none none 0 0 0 0 [] [] 0 Sl.nil Sl.nil rfl rfl (by decide) (by decide) true (by decide))
      go_wp2_with fail
      refine hi2.out.mono ?_
      rintro e w8 ⟨rfl, hb8⟩
      have hB8 := bch (bch hB6 hb7) hb8
      go_wp2_with fail
      refine (longest_bad _ a0 (by omega) w0).mono ?_
      rintro e w9 ⟨rfl, hb9⟩
      have hB9 := bch hB8 hb9
      go_wp2_with fail
      refine (error_ok _ _ 4 (HT.out _ hB9) (.inr rfl)).mono ?_
      rintro e w10 ⟨rfl, hb10⟩
      go_wp2
      go_ret
      exact ⟨rfl, bch hB9 hb10⟩
end Go.Proofs.YtknecfgacnknlaaDoor

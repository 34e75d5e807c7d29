/- letterbecklaw1.FindSays returns true at all arguments: the walk. -/
import Derived.Test.YtknecfgacnknlaaDoorFindRefs
import Derived.Test.YtknecfgacnknlaaDoorFindApart
namespace Go.Proofs.YtknecfgacnknlaaDoor
set_option linter.unusedVariables false
set_option linter.unusedSimpArgs false
open Go.RowKit

set_option maxRecDepth 100000 in
set_option maxHeartbeats 1000000 in
theorem walk_findSays (a0 : ByteArray) (w0 : a0.size ≤ maxLen) (a1 : ByteArray) (w1 : a1.size ≤ maxLen) (W : World) (hET : HasET W) :
    Calls Tryd.prog 6 #[.string a0, .string a1] W fun e w' => e = .returned (.bool true) ∧ Below W.heap.size W w' := by
  have HT := hid (fun w (h : Below W.heap.size W w) => hET.below h)
  clear hET
  rcases check_word a0 a1 w0 w1 with ⟨ht, hs, hpos⟩ | ⟨x, hx0, hc, hw⟩
  · have hlen := pos_len (bt a1) a1.size (bt a0) a0.size
    have hlen' := posI_len (bt a1) a1.size (bt a0) a0.size
    have hbd0 : ∀ (j : Nat) (x : Int), (posI (bt a1) a1.size (bt a0) a0.size)[j]? = some x → 0 ≤ x ∧ x ≤ 24 := fun j x h => posI_bd hpos ht h
    have Hap := hid (apTo_bd (n := a1.size) ⟨by omega, by omega⟩ hbd0)
    have Hbd := hid hbd0
    have Hst := hid (fun w => stands_any w a0 a1 ht hs)
    have Hall := hid (fun w => findAll_ok w a0 a1 ht hs hpos)
    have Hapt := hid (fun w r h => findApart_ok w a0 a1 ht hs hpos r h)
    have Hchk := hid (fun w => check_ok w a0 a1 ht hs hpos)
    have Hwrd := hid (fun w => word_ok w a0 a1 ht hs hpos)
    clear hbd0
    generalize posI (bt a1) a1.size (bt a0) a0.size = L at *
    rw [← hlen'] at hlen
    clear hlen'
    go_enter Tryd.func6, Tryd.ntmps6
    go_wp2_with fail
    refine (Hwrd.out _).mono ?_
    rintro e v1 ⟨rfl, rfl⟩
    go_wp2_with fail
    refine (Hchk.out _).mono ?_
    rintro e v1 ⟨rfl, hb1⟩
    go_wp2_with fail
    refine (error_ok _ _ 0 (HT.out _ hb1) (.inl ⟨rfl, rfl⟩)).mono ?_
    rintro e v2 ⟨rfl, hb2⟩
    have hB2 := bch hb1 hb2
    go_wp2_with fail
    refine (Hst.out _).mono ?_
    rintro e v3 ⟨A, c, rfl, ho1, hb3⟩
    have hB3 := bch hB2 hb3
    have hsl := ho1.sl
    clear hb1 hb2 hb3 hB2
    go_wp2_with fail
    go_loopw [8, 9, 10] (fun a b i wr => ∃ (j : Nat) (x y : Int), j ≤ L.length ∧ i = .int .i64 j ∧ a = .int .i64 x ∧ b = .int .i64 y ∧ 0 ≤ x ∧ x ≤ 24 ∧ 0 ≤ y ∧ y ≤ 48 ∧ wr = v3 ∧ Hid (apTo a1.size L j = (x, y))) (fun _ _ i _ => L.length - (intOf i).toNat)
    case atStart => exact ⟨0, 0, 0, Nat.zero_le _, rfl, rfl, rfl, by omega, by omega, by omega, by omega, rfl, rfl⟩
    case round =>
      obtain ⟨j, x, y, hj, rfl, rfl, rfl, hx0, hx1, hy0, hy1, rfl, hst⟩ := hrel
      by_cases hlt : j < L.length
      · obtain ⟨g, o, hA, hg, hc⟩ := hsl (ints_ne (by omega))
        subst hA
        obtain ⟨z, hz⟩ : ∃ z, L[j]? = some z := ⟨_, List.getElem?_eq_getElem hlt⟩
        have q1 := hc _ _ (ints_get' hz)
        have hzb := Hbd.out _ _ hz
        have hnx := apTo_step (n := (a1.size : Int)) hz
        rw [hst.out] at hnx
        have hbb := Hap.out (j + 1) hlt
        have Hnx := hid hnx
        clear hc hz hnx
        by_cases hle : y ≤ z
        · have hn2 : apTo a1.size L (j + 1) = (x + 1, z + a1.size) := by rw [Hnx.out]; unfold apStep; rw [if_pos hle]
          rw [hn2] at hbb
          have Hn2 := hid hn2
          simp only at hbb
          clear hn2
          go_wp2
          go_roundw
          case rel => exact ⟨j + 1, x + 1, z + a1.size, hlt, by go_num, by go_num, by go_num, by omega, by omega, by omega, by omega, by trivial, Hn2⟩
          case measure => simp [intOf]; omega
        · have hn2 : apTo a1.size L (j + 1) = (x, y) := by rw [Hnx.out]; unfold apStep; rw [if_neg hle]
          have Hn2 := hid hn2
          clear hn2 hbb
          have e1 : decide (y ≤ z) = false := by simp; omega
          go_wp2
          go_roundw
          case rel => exact ⟨j + 1, x, y, hlt, by go_num, rfl, rfl, by omega, by omega, by omega, by omega, by trivial, Hn2⟩
          case measure => simp [intOf]; omega
      · have hjl : j = L.length := by omega
        have Hr : Hid (apart a1.size L = x) := by
          unfold apart
          rw [← hjl, hst.out]
          exact rfl
        clear hjl
        go_wp2_with fail
        refine (Hall.out _).mono ?_
        rintro e v4 ⟨A4, c4, rfl, ho4, hb4⟩
        have hB4 := bch hB3 hb4
        go_wp2_with fail
        refine (error_ok _ _ 0 (HT.out _ hB4) (.inl ⟨rfl, rfl⟩)).mono ?_
        rintro e v5 ⟨rfl, hb5⟩
        have hs1 := (((ho1.below hb4).below hb5).slB v5.heap.size (Nat.le_refl _))
        have hs4 := (ho4.below hb5).slB v5.heap.size (Nat.le_refl _)
        have hB5 := bch hB4 hb5
        have hi := hid (ints_eq v5 A4 A c4 c _ _ _ _ _ hs4 hs1 rfl rfl (by omega) (by omega) true (by simp))
        clear ho1 ho4 hb4 hb5 hs1 hs4 hB3 hB4
        go_wp2_with fail
        refine hi.out.mono ?_
        rintro e v6 ⟨rfl, hb6⟩
        go_wp2_with fail
        refine (Hapt.out _ _ Hr).mono ?_
        rintro e v7 ⟨rfl, hb7⟩
        have hB7 := bch (bch hB5 hb6) hb7
        go_wp2_with fail
        refine (error_ok _ _ 0 (HT.out _ hB7) (.inl ⟨rfl, rfl⟩)).mono ?_
        rintro e v8 ⟨rfl, hb8⟩
        go_wp2
        go_ret
        exact ⟨rfl, bch hB7 hb8⟩
  · go_enter Tryd.func6, Tryd.ntmps6
    go_wp2_with fail
    refine (hw.out _).mono ?_
    rintro e v1 ⟨rfl, rfl⟩
    go_wp2_with fail
    refine (hc.out _).mono ?_
    rintro e v1 ⟨rfl, hb1⟩
    go_wp2_with fail
    refine (error_ok _ _ x (HT.out _ hb1) (.inr rfl)).mono ?_
    rintro e v2 ⟨rfl, hb2⟩
    have hB2 := bch hb1 hb2
    go_wp2_with fail
    refine (findAll_err _ a0 a1 x hc).mono ?_
    rintro e v3 ⟨rfl, hb3⟩
    have hB3 := bch hB2 hb3
    go_wp2_with fail
    refine (error_ok _ _ x (HT.out _ hB3) (.inr rfl)).mono ?_
    rintro e v4 ⟨rfl, hb4⟩
    have hi := hid (ints_eq v4 none none 0 0 0 0 [] [] 0 Sl.nil Sl.nil rfl rfl (by decide) (by decide) true (by decide))
    go_wp2_with fail
    refine hi.out.mono ?_
    rintro e v5 ⟨rfl, hb5⟩
    go_wp2_with fail
    refine (findApart_err _ a0 a1 x hc).mono ?_
    rintro e v6 ⟨rfl, hb6⟩
    have hB6 := bch (bch (bch hB3 hb4) hb5) hb6
    go_wp2_with fail
    refine (error_ok _ _ x (HT.out _ hB6) (.inr rfl)).mono ?_
    rintro e v7 ⟨rfl, hb7⟩
    go_wp2
    go_ret
    exact ⟨rfl, bch hB6 hb7⟩
end Go.Proofs.YtknecfgacnknlaaDoor

/- letterbecklaw1.TrieSays returns true at all words and texts: the walk. -/
import Derived.Test.YtknecfgacnknlaaDoorTold
import Derived.Test.YtknecfgacnknlaaDoorWordsRef
import Derived.Test.YtknecfgacnknlaaDoorSortedRef
import Derived.Test.YtknecfgacnknlaaDoorLongestRef
import Derived.Test.YtknecfgacnknlaaDoorInts
namespace Go.Proofs.YtknecfgacnknlaaDoor
set_option linter.unusedVariables false
set_option linter.unusedSimpArgs false
open Go.RowKit

set_option maxRecDepth 100000 in
set_option maxHeartbeats 2000000 in
theorem walk_trieSays (A : Option Addr) (c : Nat) (ws : List ByteArray) (a1 : ByteArray) (w1 : a1.size ≤ maxLen) (W : World) (hET : HasET W) (h : Sl W W.heap.size A (ws.map Value.string)) (hc : ws.length ≤ c) (hz : ∀ k, k < ws.length → (wat ws k).size ≤ maxLen) :
    Calls Tryd.prog 11 #[.slice A ws.length c, .string a1] W fun e w' => e = .returned (.bool true) ∧ Below W.heap.size W w' := by
  have HT := hid (fun w (h : Below W.heap.size W w) => hET.below h)
  clear hET
  have HSl := hid (fun w (hb : Below W.heap.size W w) => ((h.below hb).mono hb.size))
  rcases words_or ws with hW | ⟨x, hx, hW⟩
  · have HCk := hid (fun w hb => check_ok w A c ws (HSl.out w hb) hc hW)
    have HSz := hid (fun w hb => trieSize_ok w A c ws (HSl.out w hb) hc hW)
    have HOr := hid (fun w hb => trieOrder_ok w A c ws (HSl.out w hb) hc hW)
    have HRs := hid (fun w hb => sizeRef_any w A c ws _ (HSl.out w hb) hW)
    have HRo := hid (fun w hb => sortedRef_any w A c ws (HSl.out w hb) hW)
    have hl := ordW_len (wall_dist hW) (wall_size hW)
    have HLe := hid hl
    have hl6 := hW.1
    have hNl := wall_nodes hW
    have HWr := hid (fun w (hb : Below W.heap.size W w) => wordsRef_any w A c ws w.heap.size (HSl.out w hb) hz 0 (.inl ⟨rfl, hW⟩))
    by_cases ht : a1.size ≤ 24
    · obtain ⟨r, hr⟩ := wlongest_exists (ws := ws) (t := a1)
      have HLo := hid (fun w hb => trieLongest_ok w A c ws (HSl.out w hb) hc hW a1 ht r hr)
      have HRl := hid (fun w hb => longestRef_any w A c ws _ (HSl.out w hb) hW a1 ht r hr)
      have hrr : (r == r) = true := by simp
      obtain ⟨N, hN⟩ : ∃ N, (nodesTo ws ws.length).length = N := ⟨_, rfl⟩
      simp only [hN] at HSz HRs
      have hnn : ((N : Int) == N) = true := by simp
      clear hW hr h hz hl hN hNl
      go_enter Tryd.func11, Tryd.ntmps11
      go_wp2_with fail
      refine (HWr.out _ (Below.refl _ _)).mono ?_
      rintro e w2 ⟨rfl, u2, rfl⟩
      have hB2 : Below W.heap.size W (W.drewN u2) := below_drewN W u2
      generalize W.drewN u2 = w2 at *
      go_wp2_with fail
      refine (HCk.out _ hB2).mono ?_
      rintro e w3 ⟨rfl, hb3⟩
      have hB3 := bch hB2 hb3
      go_wp2_with fail
      refine (error_ok _ _ 0 (HT.out _ hB3) (.inl ⟨rfl, rfl⟩)).mono ?_
      rintro e w4 ⟨rfl, hb4⟩
      have hB4 := bch hB3 hb4
      go_wp2_with fail
      refine (HRs.out _ hB4).mono ?_
      rintro e w5 ⟨rfl, u5, rfl⟩
      have hB5 : Below W.heap.size W (w4.drewN u5) := below_dn hB4 u5
      generalize w4.drewN u5 = w5 at *
      go_wp2_with fail
      refine (HRo.out _ hB5).mono ?_
      rintro e w6 ⟨A6, c6, rfl, ho6, hb6⟩
      have hB6 := bch hB5 hb6
      go_wp2_with fail
      refine (HSz.out _ hB6).mono ?_
      rintro e w7 ⟨rfl, hb7⟩
      have hB7 := bch hB6 hb7
      have ho7 := ho6.below hb7
      go_wp2_with fail
      refine (error_ok _ _ 0 (HT.out _ hB7) (.inl ⟨rfl, rfl⟩)).mono ?_
      rintro e w8 ⟨rfl, hb8⟩
      have hB8 := bch hB7 hb8
      have ho8 := ho7.below hb8
      clear hb3 hb4 hb6 hb7 hb8 ho6 ho7 hB2 hB3 hB4 hB5 hB6 hB7
      go_wp2_with fail
      refine (HOr.out _ hB8).mono ?_
      rintro e w9 ⟨A9, c9, rfl, ho9, hb9⟩
      have hB9 := bch hB8 hb9
      rw [HLe.out] at ho9 ⊢
      go_wp2_with fail
      refine (error_ok _ _ 0 (HT.out _ hB9) (.inl ⟨rfl, rfl⟩)).mono ?_
      rintro e w10 ⟨rfl, hb10⟩
      have hB10 := bch hB9 hb10
      have hs1 := ((ho8.below hb9).below hb10).slB w10.heap.size (Nat.le_refl _)
      have hs3 := (ho9.below hb10).slB w10.heap.size (Nat.le_refl _)
      have hi := hid (ints_eq w10 A9 A6 c9 c6 ws.length ws.length _ _ _ hs3 hs1 HLe.out HLe.out (by omega) (by omega) true (by simp))
      clear ho8 ho9 hb9 hb10 hs1 hs3 hB8 hB9
      go_wp2_with fail
      refine hi.out.mono ?_
      rintro e w11 ⟨rfl, hb11⟩
      have hB11 := bch hB10 hb11
      go_wp2_with fail
      refine (lawLong_ok _ a1 ht).mono ?_
      rintro e w12 ⟨rfl, rfl⟩
      go_wp2_with fail
      refine (HRl.out _ hB11).mono ?_
      rintro e w12 ⟨rfl, u12, rfl⟩
      have hB12 : Below W.heap.size W (w11.drewN u12) := below_dn hB11 u12
      generalize w11.drewN u12 = w12 at *
      go_wp2_with fail
      refine (HLo.out _ hB12).mono ?_
      rintro e w13 ⟨rfl, hb13⟩
      have hB13 := bch hB12 hb13
      go_wp2_with fail
      refine (error_ok _ _ 0 (HT.out _ hB13) (.inl ⟨rfl, rfl⟩)).mono ?_
      rintro e w14 ⟨rfl, hb14⟩
      go_wp2_with fail
      go_ret
      exact ⟨rfl, bch hB13 hb14⟩
    · have HLo := hid (fun w hb => trieLongest_long w A c ws (HSl.out w hb) hc hW a1 (by omega) w1)
      obtain ⟨N, hN⟩ : ∃ N, (nodesTo ws ws.length).length = N := ⟨_, rfl⟩
      simp only [hN] at HSz HRs
      have hnn : ((N : Int) == N) = true := by simp
      clear hW h hz hl hN hNl
      go_enter Tryd.func11, Tryd.ntmps11
      go_wp2_with fail
      refine (HWr.out _ (Below.refl _ _)).mono ?_
      rintro e w2 ⟨rfl, u2, rfl⟩
      have hB2 : Below W.heap.size W (W.drewN u2) := below_drewN W u2
      generalize W.drewN u2 = w2 at *
      go_wp2_with fail
      refine (HCk.out _ hB2).mono ?_
      rintro e w3 ⟨rfl, hb3⟩
      have hB3 := bch hB2 hb3
      go_wp2_with fail
      refine (error_ok _ _ 0 (HT.out _ hB3) (.inl ⟨rfl, rfl⟩)).mono ?_
      rintro e w4 ⟨rfl, hb4⟩
      have hB4 := bch hB3 hb4
      go_wp2_with fail
      refine (HRs.out _ hB4).mono ?_
      rintro e w5 ⟨rfl, u5, rfl⟩
      have hB5 : Below W.heap.size W (w4.drewN u5) := below_dn hB4 u5
      generalize w4.drewN u5 = w5 at *
      go_wp2_with fail
      refine (HRo.out _ hB5).mono ?_
      rintro e w6 ⟨A6, c6, rfl, ho6, hb6⟩
      have hB6 := bch hB5 hb6
      go_wp2_with fail
      refine (HSz.out _ hB6).mono ?_
      rintro e w7 ⟨rfl, hb7⟩
      have hB7 := bch hB6 hb7
      have ho7 := ho6.below hb7
      go_wp2_with fail
      refine (error_ok _ _ 0 (HT.out _ hB7) (.inl ⟨rfl, rfl⟩)).mono ?_
      rintro e w8 ⟨rfl, hb8⟩
      have hB8 := bch hB7 hb8
      have ho8 := ho7.below hb8
      clear hb3 hb4 hb6 hb7 hb8 ho6 ho7 hB2 hB3 hB4 hB5 hB6 hB7
      go_wp2_with fail
      refine (HOr.out _ hB8).mono ?_
      rintro e w9 ⟨A9, c9, rfl, ho9, hb9⟩
      have hB9 := bch hB8 hb9
      rw [HLe.out] at ho9 ⊢
      go_wp2_with fail
      refine (error_ok _ _ 0 (HT.out _ hB9) (.inl ⟨rfl, rfl⟩)).mono ?_
      rintro e w10 ⟨rfl, hb10⟩
      have hB10 := bch hB9 hb10
      have hs1 := ((ho8.below hb9).below hb10).slB w10.heap.size (Nat.le_refl _)
      have hs3 := (ho9.below hb10).slB w10.heap.size (Nat.le_refl _)
      have hi := hid (ints_eq w10 A9 A6 c9 c6 ws.length ws.length _ _ _ hs3 hs1 HLe.out HLe.out (by omega) (by omega) true (by simp))
      clear ho8 ho9 hb9 hb10 hs1 hs3 hB8 hB9
      go_wp2_with fail
      refine hi.out.mono ?_
      rintro e w11 ⟨rfl, hb11⟩
      have hB11 := bch hB10 hb11
      go_wp2_with fail
      refine (lawLong_bad _ a1 (by omega)).mono ?_
      rintro e w12 ⟨rfl, rfl⟩
      go_wp2_with fail
      refine (HLo.out _ hB11).mono ?_
      rintro e w13 ⟨rfl, hb13⟩
      have hB13 := bch hB11 hb13
      go_wp2_with fail
      refine (error_ok _ _ 4 (HT.out _ hB13) (.inr rfl)).mono ?_
      rintro e w14 ⟨rfl, hb14⟩
      go_wp2_with fail
      go_ret
      exact ⟨rfl, bch hB13 hb14⟩
  · have HWr := hid (fun w (hb : Below W.heap.size W w) => wordsRef_any w A c ws w.heap.size (HSl.out w hb) hz x (.inr hW))
    have HCk := hid (fun w hb => check_bad w A c ws (HSl.out w hb) hc hz x hW)
    have HSz := hid (fun w hb => trieSize_bad w A c ws (HSl.out w hb) hc hz x hW)
    have HOr := hid (fun w hb => trieOrder_bad w A c ws (HSl.out w hb) hc hz x hW)
    have HLo := hid (fun w hb => trieLongest_bad w A c ws (HSl.out w hb) hc hz x hW a1)
    have hx0 : (x == 0) = false := by simpa using hx
    clear h hz hW hx
    go_enter Tryd.func11, Tryd.ntmps11
    go_wp2_with fail
    refine (HWr.out _ (Below.refl _ _)).mono ?_
    rintro e w2 ⟨rfl, u2, rfl⟩
    have hB2 : Below W.heap.size W (W.drewN u2) := below_drewN W u2
    generalize W.drewN u2 = w2 at *
    go_wp2_with fail
    refine (HCk.out _ hB2).mono ?_
    rintro e w3 ⟨rfl, hb3⟩
    have hB3 := bch hB2 hb3
    go_wp2_with fail
    refine (error_ok _ _ x (HT.out _ hB3) (.inr rfl)).mono ?_
    rintro e w4 ⟨rfl, hb4⟩
    have hB4 := bch hB3 hb4
    go_wp2_with fail
    refine (HSz.out _ hB4).mono ?_
    rintro e w7 ⟨rfl, hb7⟩
    have hB7 := bch hB4 hb7
    go_wp2_with fail
    refine (error_ok _ _ x (HT.out _ hB7) (.inr rfl)).mono ?_
    rintro e w8 ⟨rfl, hb8⟩
    have hB8 := bch hB7 hb8
    go_wp2_with fail
    refine (HOr.out _ hB8).mono ?_
    rintro e w9 ⟨rfl, hb9⟩
    have hB9 := bch hB8 hb9
    go_wp2_with fail
    refine (error_ok _ _ x (HT.out _ hB9) (.inr rfl)).mono ?_
    rintro e w10 ⟨rfl, hb10⟩
    have hB10 := bch hB9 hb10
    have hi := hid (ints_eq w10 none none 0 0 0 0 [] [] 0 Sl.nil Sl.nil rfl rfl (by decide) (by decide) true (by decide))
    go_wp2_with fail
    refine hi.out.mono ?_
    rintro e w11 ⟨rfl, hb11⟩
    have hB11 := bch hB10 hb11
    go_wp2_with fail
    refine (HLo.out _ hB11).mono ?_
    rintro e w13 ⟨rfl, hb13⟩
    have hB13 := bch hB11 hb13
    go_wp2_with fail
    refine (error_ok _ _ x (HT.out _ hB13) (.inr rfl)).mono ?_
    rintro e w14 ⟨rfl, hb14⟩
    go_wp2_with fail
    go_ret
    exact ⟨rfl, bch hB13 hb14⟩
end Go.Proofs.YtknecfgacnknlaaDoor

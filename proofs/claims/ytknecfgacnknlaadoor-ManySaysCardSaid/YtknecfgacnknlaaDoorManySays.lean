/- letterbecklaw1.ManySays returns true at all words and texts: the walk. -/
import Derived.Test.YtknecfgacnknlaaDoorTold
import Derived.Test.YtknecfgacnknlaaDoorWordsRef
import Derived.Test.YtknecfgacnknlaaDoorHitsRef
import Derived.Test.YtknecfgacnknlaaDoorHitsEq
import Derived.Test.YtknecfgacnknlaaDoorInts
namespace Go.Proofs.YtknecfgacnknlaaDoor
set_option linter.unusedVariables false
set_option linter.unusedSimpArgs false
open Go.RowKit

theorem hitsL_len {ws : List ByteArray} {t : ByteArray} (hW : WAll ws) (ht : t.size ≤ 24) : (hitsL ws t).length ≤ 1000 := by
  have h1 := hitsTo_len ws t t.size
  have : t.size * ws.length ≤ 24 * 6 := Nat.mul_le_mul ht hW.1
  unfold hitsL
  omega
theorem slh_nil (w : World) (B : Nat) (A : Option Addr) : SlH w B A [] := fun h => absurd rfl h

set_option maxRecDepth 100000 in
set_option maxHeartbeats 4000000 in
theorem walk_manySays (A : Option Addr) (c : Nat) (ws : List ByteArray) (a1 : ByteArray) (w1 : a1.size ≤ maxLen) (W : World) (hET : HasET W) (h : Sl W W.heap.size A (ws.map Value.string)) (hc : ws.length ≤ c) (hz : ∀ k, k < ws.length → (wat ws k).size ≤ maxLen) :
    Calls Tryd.prog 12 #[.slice A ws.length c, .string a1] W fun e w' => e = .returned (.bool true) ∧ Below W.heap.size W w' := by
  have HT := hid (fun w (h : Below W.heap.size W w) => hET.below h)
  clear hET
  have HSl := hid (fun w (hb : Below W.heap.size W w) => ((h.below hb).mono hb.size))
  rcases words_or ws with hW | ⟨x, hx, hW⟩
  · have HWr := hid (fun w (hb : Below W.heap.size W w) => wordsRef_any w A c ws w.heap.size (HSl.out w hb) hz 0 (.inl ⟨rfl, hW⟩))
    by_cases ht : a1.size ≤ 24
    · have HAl := hid (fun w hb => manyAll_ok w A c ws (HSl.out w hb) hc hW a1 ht)
      have HCu := hid (fun w hb => manyCut_ok w A c ws (HSl.out w hb) hc hW a1 ht)
      have HHr := hid (fun w hb => hitsRef_any w A c ws (HSl.out w hb) hW a1 ht)
      have HCr := hid (fun w hb => cutRef_any w A c ws (HSl.out w hb) hW a1 ht hc)
      have hLl := hitsL_len hW ht
      have HD := hid (wall_dist hW)
      have HP := hid (fun m hm => hit_pos hW (k := m) hm)
      have hl6 := hW.1
      obtain ⟨L, hL⟩ : ∃ L, hitsL ws a1 = L := ⟨_, rfl⟩
      rw [hL] at HAl HHr hLl
      clear hW h hz hL
      go_enter Tryd.func12, Tryd.ntmps12
      go_wp2_with fail
      refine (HWr.out _ (Below.refl _ _)).mono ?_
      rintro e w2 ⟨rfl, u2, rfl⟩
      have hB2 : Below W.heap.size W (W.drewN u2) := below_drewN W u2
      generalize W.drewN u2 = w2 at *
      go_wp2_with fail
      refine (lawLong_ok _ a1 ht).mono ?_
      rintro e w3 ⟨rfl, rfl⟩
      go_wp2_with fail
      refine (HHr.out _ hB2).mono ?_
      rintro e w4 ⟨v4, rfl, ho4, hb4⟩
      have hB4 := bch hB2 hb4
      go_wp2_with fail
      refine (HAl.out _ hB4).mono ?_
      rintro e w5 ⟨v5, rfl, hl5, hb5⟩
      have hB5 := bch hB4 hb5
      go_wp2_with fail
      refine (error_ok _ _ 0 (HT.out _ hB5) (.inl ⟨rfl, rfl⟩)).mono ?_
      rintro e w6 ⟨rfl, hb6⟩
      have hB6 := bch hB5 hb6
      obtain ⟨A4, c4, rfl, hs4⟩ := ((ho4.below hb5).below hb6).slh
      obtain ⟨A5, c5, rfl, hs5⟩ := (hl5.below hb6).slh
      have hE := hid (hits_eq w6 A5 A4 c5 c4 L.length L.length L L w6.heap.size hs5 hs4 rfl rfl (by omega) (by omega) true (by simp))
      clear hs4 hs5 hl5 ho4 hb4 hb5 hb6 hB5 hB4 hB2 HWr HHr HAl
      go_wp2_with fail
      refine hE.out.mono ?_
      rintro e w7 ⟨rfl, m, rfl⟩
      have hB7 : Below W.heap.size W (w6.drewN m) := below_dn hB6 m
      generalize w6.drewN m = w7 at *
      clear hE hB6
      go_wp2_with fail
      refine (HCr.out _ hB7).mono ?_
      rintro e w8 ⟨hR, hb8⟩
      have hB8 := bch hB7 hb8
      rcases hR with ⟨l, v, hcl, rfl, ho⟩ | ⟨hno, rfl⟩
      · have hll := cutl_len (fun m hm => HP.out m hm) hcl
        have HCl := hid hcl
        obtain ⟨A8, c8, rfl⟩ := ho.shape
        clear hcl hb8 hB7 HCr
        go_wp2_with fail
        refine (HCu.out _ hB8).mono ?_
        rintro e w9 ⟨hR, hb9⟩
        have hB9 := bch hB8 hb9
        have ho9 := ho.below hb9
        rcases hR with ⟨l', v', hcl', rfl, ho'⟩ | ⟨hno, rfl⟩
        · have e2 := cutl_unique HD.out hcl' HCl.out
          subst e2
          obtain ⟨A9, c9, rfl⟩ := ho'.shape
          clear hcl' hb9 hB8 ho
          go_wp2_with fail
          refine (error_ok _ _ 0 (HT.out _ hB9) (.inl ⟨rfl, rfl⟩)).mono ?_
          rintro e w10 ⟨rfl, hb10⟩
          have hB10 := bch hB9 hb10
          have hi := hid (ints_eq w10 A9 A8 c9 c8 l'.length l'.length l' l' w10.heap.size ((ho'.below hb10).slB _ (Nat.le_refl _)) ((ho9.below hb10).slB _ (Nat.le_refl _)) rfl rfl (by omega) (by omega) true (by simp))
          clear ho' ho9 hb10 hB9
          go_wp2_with fail
          refine hi.out.mono ?_
          rintro e w11 ⟨rfl, hb11⟩
          go_wp2_with fail
          go_ret
          exact ⟨rfl, bch hB10 hb11⟩
        · exact absurd HCl.out (hno _)
      · have HNo := hid hno
        clear hno hb8 hB7 HCr
        go_wp2_with fail
        refine (HCu.out _ hB8).mono ?_
        rintro e w9 ⟨hR, hb9⟩
        have hB9 := bch hB8 hb9
        rcases hR with ⟨l', v', hcl', rfl, ho'⟩ | ⟨hno, rfl⟩
        · exact absurd hcl' (HNo.out _)
        · clear hno hb9 hB8
          go_wp2_with fail
          refine (error_ok _ _ 5 (HT.out _ hB9) (.inr rfl)).mono ?_
          rintro e w10 ⟨rfl, hb10⟩
          have hB10 := bch hB9 hb10
          have hi := hid (ints_eq w10 none none 0 0 0 0 [] [] 0 Sl.nil Sl.nil rfl rfl (by decide) (by decide) true (by decide))
          go_wp2_with fail
          refine hi.out.mono ?_
          rintro e w11 ⟨rfl, hb11⟩
          go_wp2_with fail
          go_ret
          exact ⟨rfl, bch hB10 hb11⟩
    · have HAl := hid (fun w hb => manyAll_long w A c ws (HSl.out w hb) hc hW a1 (by omega) w1)
      have HCu := hid (fun w hb => manyCut_long w A c ws (HSl.out w hb) hc hW a1 (by omega) w1)
      clear hW h hz
      go_enter Tryd.func12, Tryd.ntmps12
      go_wp2_with fail
      refine (HWr.out _ (Below.refl _ _)).mono ?_
      rintro e w2 ⟨rfl, u2, rfl⟩
      have hB2 : Below W.heap.size W (W.drewN u2) := below_drewN W u2
      generalize W.drewN u2 = w2 at *
      go_wp2_with fail
      refine (lawLong_bad _ a1 (by omega)).mono ?_
      rintro e w3 ⟨rfl, rfl⟩
      go_wp2_with fail
      refine (HAl.out _ hB2).mono ?_
      rintro e w5 ⟨rfl, hb5⟩
      have hB5 := bch hB2 hb5
      go_wp2_with fail
      refine (error_ok _ _ 4 (HT.out _ hB5) (.inr rfl)).mono ?_
      rintro e w6 ⟨rfl, hb6⟩
      have hB6 := bch hB5 hb6
      have hE := hid (hits_eq w6 none none 0 0 0 0 [] [] 0 (slh_nil _ _ _) (slh_nil _ _ _) rfl rfl (by decide) (by decide) true (by decide))
      go_wp2_with fail
      refine hE.out.mono ?_
      rintro e w7 ⟨rfl, m, rfl⟩
      have hB7 : Below W.heap.size W (w6.drewN m) := below_dn hB6 m
      generalize w6.drewN m = w7 at *
      go_wp2_with fail
      refine (HCu.out _ hB7).mono ?_
      rintro e w9 ⟨rfl, hb9⟩
      have hB9 := bch hB7 hb9
      go_wp2_with fail
      refine (error_ok _ _ 4 (HT.out _ hB9) (.inr rfl)).mono ?_
      rintro e w10 ⟨rfl, hb10⟩
      have hB10 := bch hB9 hb10
      have hi := hid (ints_eq w10 none none 0 0 0 0 [] [] 0 Sl.nil Sl.nil rfl rfl (by decide) (by decide) true (by decide))
      go_wp2_with fail
      refine hi.out.mono ?_
      rintro e w11 ⟨rfl, hb11⟩
      go_wp2_with fail
      go_ret
      exact ⟨rfl, bch hB10 hb11⟩
  · have HWr := hid (fun w (hb : Below W.heap.size W w) => wordsRef_any w A c ws w.heap.size (HSl.out w hb) hz x (.inr hW))
    have HAl := hid (fun w hb => manyAll_bad w A c ws (HSl.out w hb) hc hz x hW a1)
    have HCu := hid (fun w hb => manyCut_bad w A c ws (HSl.out w hb) hc hz x hW a1)
    have hx0 : (x == 0) = false := by simpa using hx
    clear h hz hW hx
    go_enter Tryd.func12, Tryd.ntmps12
    go_wp2_with fail
    refine (HWr.out _ (Below.refl _ _)).mono ?_
    rintro e w2 ⟨rfl, u2, rfl⟩
    have hB2 : Below W.heap.size W (W.drewN u2) := below_drewN W u2
    generalize W.drewN u2 = w2 at *
    go_wp2_with fail
    refine (HAl.out _ hB2).mono ?_
    rintro e w5 ⟨rfl, hb5⟩
    have hB5 := bch hB2 hb5
    go_wp2_with fail
    refine (error_ok _ _ x (HT.out _ hB5) (.inr rfl)).mono ?_
    rintro e w6 ⟨rfl, hb6⟩
    have hB6 := bch hB5 hb6
    have hE := hid (hits_eq w6 none none 0 0 0 0 [] [] 0 (slh_nil _ _ _) (slh_nil _ _ _) rfl rfl (by decide) (by decide) true (by decide))
    go_wp2_with fail
    refine hE.out.mono ?_
    rintro e w7 ⟨rfl, m, rfl⟩
    have hB7 : Below W.heap.size W (w6.drewN m) := below_dn hB6 m
    generalize w6.drewN m = w7 at *
    go_wp2_with fail
    refine (HCu.out _ hB7).mono ?_
    rintro e w9 ⟨rfl, hb9⟩
    have hB9 := bch hB7 hb9
    go_wp2_with fail
    refine (error_ok _ _ x (HT.out _ hB9) (.inr rfl)).mono ?_
    rintro e w10 ⟨rfl, hb10⟩
    have hB10 := bch hB9 hb10
    have hi := hid (ints_eq w10 none none 0 0 0 0 [] [] 0 Sl.nil Sl.nil rfl rfl (by decide) (by decide) true (by decide))
    go_wp2_with fail
    refine hi.out.mono ?_
    rintro e w11 ⟨rfl, hb11⟩
    go_wp2_with fail
    go_ret
    exact ⟨rfl, bch hB10 hb11⟩
end Go.Proofs.YtknecfgacnknlaaDoor

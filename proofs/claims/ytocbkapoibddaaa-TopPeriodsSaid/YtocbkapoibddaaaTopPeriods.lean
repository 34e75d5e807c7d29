/- letterbecktop.TopPeriods returns true at every text: the walk. -/
import Derived.Test.YtocbkapoibddaaaPeriodEdges
import Derived.Test.YtocbkapoibddaaaZetaEdges
import Derived.Test.YtocbkapoibddaaaTurnRoot
namespace Go.Proofs.Ytocbkapoibddaaa
set_option linter.unusedVariables false
set_option linter.unusedSimpArgs false
open Go.RowKit

theorem perList_first {f : Nat → Nat} {n : Nat} (hn : 0 < n) : (perList f n)[0]? = some ((n : Int) - (fail f n : Int)) := by
  rcases Nat.eq_zero_or_pos (fail f n) with h | h
  · unfold perList
    rw [edgesAll_zero h, h]; simp
  · unfold perList
    rw [edgesAll_chain h]; simp

/-- A turn by a period that divides the length is the text itself. -/
theorem turn_self {s : ByteArray} {p k : Nat} (hp : Per (bt s) s.size p) (hd : p ∣ s.size) (hk : k ≤ s.size) (hpk : p ∣ k) : s.extract k s.size ++ s.extract 0 k = s := by
  have z1 : (s.extract k s.size).size = s.size - k := by simp
  have z2 : (s.extract 0 k).size = k := by simp; omega
  refine ext_bt (by rw [ByteArray.size_append, z1, z2]; omega) fun j hj => ?_
  rw [ByteArray.size_append, z1, z2] at hj
  rw [bt_append, z1]
  split
  · rw [bt_extract _ _ _ _ (by omega)]
    exact (per_cong hp (by omega) (by omega) (by rw [show k + j - j = k from by omega]; exact hpk)).symm
  · rw [bt_extract _ _ _ _ (by omega), Nat.zero_add]
    refine per_cong hp (by omega) (by omega) ?_
    rw [show j - (j - (s.size - k)) = s.size - k from by omega]
    exact Nat.dvd_sub hd hpk

theorem turn_root_self {s : ByteArray} (hpos : 0 < s.size) (hr : s.size % (s.size - fail (bt s) s.size) = 0) (k : Nat) (hk : k = (s.size - fail (bt s) s.size) % s.size) : s.extract k s.size ++ s.extract 0 k = s := by
  have hlt := fail_lt (f := bt s) hpos
  have hper : Per (bt s) s.size (s.size - fail (bt s) s.size) := (per_bdr (by omega) (by omega)).2 (by
    rw [show s.size - (s.size - fail (bt s) s.size) = fail (bt s) s.size from by omega]
    exact fail_bdr hpos)
  have hd : (s.size - fail (bt s) s.size) ∣ s.size := Nat.dvd_of_mod_eq_zero hr
  refine turn_self hper hd ?_ ?_
  · have := Nat.mod_lt (s.size - fail (bt s) s.size) hpos
    omega
  · rcases Nat.eq_zero_or_pos (fail (bt s) s.size) with h | h
    · rw [hk, h, Nat.sub_zero, Nat.mod_self]; exact Nat.dvd_zero _
    · rw [hk, Nat.mod_eq_of_lt (by omega)]; exact Nat.dvd_refl _

set_option maxHeartbeats 1000000 in
set_option maxRecDepth 100000 in
theorem walk_topPeriods (a0 : ByteArray) (w0 : a0.size ≤ maxLen) (W : World) :
    Calls Try.prog 12 #[.string a0] W fun e w' => e = .returned (.bool true) ∧ Below W.heap.size W w' := by
  have hA2 := hid (fun w => periodAll_at w ⟨#[97, 97]⟩ (by decide) (by decide) [1, 2] (by decide))
  by_cases hs : a0.size ≤ 24
  · by_cases hpos : 0 < a0.size
    · have hemp := emp_false hpos
      have hlen := edgesAll_len (bt a0) a0.size
      have hget := hid (fun i hi => perList_get (f := bt a0) (n := a0.size) (i := i) hi)
      have hlast := hid (perList_last (bt a0) a0.size)
      have hfirst := hid (perList_first (f := bt a0) hpos)
      have hpl := perList_len (bt a0) a0.size
      have hcA := hid (fun w => periodAll_ok w a0 hs hpos)
      have hcE := hid (fun w => edgesAll_ok w a0 hs)
      have hcZ := hid (fun w => zetaEdges_ok w a0 hs)
      have hcR := hid (fun w => turnRoot_ok w a0 hs hpos)
      have hfl := fail_lt (f := bt a0) hpos
      have hro : Hid ((a0.size % (a0.size - fail (bt a0) a0.size) = 0 → rootOf (bt a0) a0.size = a0.size - fail (bt a0) a0.size) ∧ (¬ a0.size % (a0.size - fail (bt a0) a0.size) = 0 → rootOf (bt a0) a0.size = a0.size)) :=
        ⟨fun h => by unfold rootOf; rw [if_neg (by omega), if_pos h], fun h => by unfold rootOf; rw [if_neg (by omega), if_neg h]⟩
      have hrs := hid (fun hr k hk => turn_root_self (s := a0) hpos hr k hk)
      generalize edgesAll (bt a0) a0.size = L at hlen hget hlast hpl hcE hcZ
      generalize perList (bt a0) a0.size = P at hget hlast hfirst hpl hcA
      generalize rootOf (bt a0) a0.size = R at hro hcR
      generalize fail (bt a0) a0.size = F at hfl hro hfirst hrs
      have Hpl := hid hpl
      have hP : P.length ≤ 25 := by omega
      clear hpl
      go_enter Try.func12, Try.ntmps12
      go_wp2_with fail
      refine (hcA.out _).mono ?_
      rintro e w1 ⟨A1, c1, rfl, ho1, hb1⟩
      go_wp2_with fail
      refine (hA2.out _).mono ?_
      rintro e w2 ⟨A2, c2, rfl, ho2, hb2⟩
      go_wp2_with fail
      refine (ints_lit _ A2 c2 _ _ _ [1, 2] [1, 2] ho2 rfl rfl (by decide) (by decide) true (by decide)).mono ?_
      rintro e w3 ⟨rfl, hb3⟩
      go_wp2_with fail
      refine (hcE.out _).mono ?_
      rintro e w4 ⟨A4, c4, rfl, ho4, hb4⟩
      go_wp2_with fail
      refine (hcZ.out _).mono ?_
      rintro e w5 ⟨A5, c5, rfl, ho5, hb5⟩
      go_wp2_with fail
      refine (hcR.out _).mono ?_
      rintro e w6 ⟨rfl, hb6⟩
      go_wp2_with fail
      have hL4 := ((ho4.below hb5).below hb6).slB w6.heap.size (Nat.le_refl _)
      have hL5 := (ho5.below hb6).slB w6.heap.size (Nat.le_refl _)
      refine (ints_eq _ A4 A5 c4 c5 _ _ L L w6.heap.size hL4 hL5 rfl rfl (by omega) (by omega) true (by simp)).mono ?_
      rintro e w7 ⟨rfl, hb7⟩
      have HB := hid (bch hb1 (bch hb2 (bch hb3 (bch hb4 (bch hb5 (bch hb6 hb7))))))
      have hs4 := (hL4.below hb7).mono hb7.size
      have hs1 := ((((((ho1.below hb2).below hb3).below hb4).below hb5).below hb6).below hb7).slB w7.heap.size (Nat.le_refl _)
      clear hb1 hb2 hb3 hb4 hb5 hb6 hb7 ho1 ho2 ho4 ho5 hL4 hL5
      have e0 : ((P.length : Int) != (L.length : Int) + 1) = false := by have := Hpl.out; simp; omega
      obtain ⟨g, o, hA, hg, hc⟩ := hs1 (ints_ne (by have := Hpl.out; omega))
      subst hA
      have qlast : w7.cell? ⟨g, o + (P.length - 1), none⟩ = some (.int .i64 a0.size) := hc _ _ (ints_get' (by rw [show P.length - 1 = L.length from by have := Hpl.out; omega]; exact hlast.out))
      have qfirst : w7.cell? ⟨g, o, none⟩ = some (.int .i64 ((a0.size : Int) - F)) := hc 0 _ (ints_get' hfirst.out)
      have hP1 : 0 < P.length := by have := Hpl.out; omega
      have hP2 : L.length < P.length := by have := Hpl.out; omega
      have Hc := hid hc
      clear hc
      go_wp2_with fail
      go_loopw [13] (fun i wr => ∃ k m : Nat, k ≤ L.length ∧ i = .int .i64 k ∧ wr = w7.drewN m) (fun i _ => L.length - (intOf i).toNat)
      case atStart => exact ⟨0, 0, Nat.zero_le _, rfl, rfl⟩
      case round =>
        obtain ⟨k, m, hk, rfl, rfl⟩ := hrel
        by_cases hlt : k < L.length
        · obtain ⟨x, hx1, hx2, hx3, hx4⟩ := hget.out (L.length - 1 - k) (by omega)
          rw [show L.length - 1 - (L.length - 1 - k) = k from by omega] at hx3
          obtain ⟨g3, o3, hA3, hg3, hc3⟩ := hs4 (ints_ne (by omega))
          subst hA3
          have q1 := Hc.out _ _ (ints_get' hx4)
          have q2 := hc3 _ _ (ints_get' hx3)
          have e1 : (((a0.size : Int) - x) != ((a0.size : Int) - x)) = false := by simp
          have hk2 : L.length - 1 - k < P.length := by omega
          clear hc3 hx3 hx4
          go_wp2
          go_quiet (fail)
          go_wp2
          go_roundw
          case rel => exact ⟨k + 1, _, hlt, by go_num, rfl⟩
          case measure => simp [intOf]; omega
        · have ec : ((a0.size : Int) - (F : Int)) = ((a0.size - F : Nat) : Int) := by omega
          have Ec := hid ec
          by_cases hr : a0.size % (a0.size - F) = 0
          · have e1 : (((a0.size : Int) % ((a0.size : Int) - F)) == 0) = true := by
              rw [ec, ← Int.natCast_emod, hr]; rfl
            have hR : R = a0.size - F := hro.out.1 hr
            have e2 : ((R : Int) == (a0.size : Int) - F) = true := by rw [hR]; simp; omega
            have hRn : R ≤ a0.size := by omega
            have hRp : 0 < R := by omega
            have hmod : ((R : Int) % (a0.size : Int)) = ((R % a0.size : Nat) : Int) := rfl
            have hml := Nat.mod_lt R hpos
            have hts := hid (hrs.out hr (R % a0.size) (by rw [hR]))
            have HR := hid hR
            have hm1 : 0 ≤ ((R : Int) % (a0.size : Int)) := by rw [hmod]; exact Int.natCast_nonneg _
            have hm2 : ((R : Int) % (a0.size : Int)) ≤ 24 := by rw [hmod]; omega
            have Hmod := hid hmod
            clear hr hR ec hmod
            go_wp2_with fail
            rw [Hmod.out]
            refine (turn_any _ a0 (R % a0.size) (by omega) hs).mono ?_
            rintro e w8 ⟨rfl, hb8⟩
            rw [hts.out]
            have e3 : (a0.toList == a0.toList) = true := by simp
            go_wp2
            go_ret
            exact ⟨rfl, bch (below_dn HB.out m) hb8⟩
          · have e1 : (((a0.size : Int) % ((a0.size : Int) - F)) == 0) = false := by
              rw [ec, ← Int.natCast_emod]; simp; omega
            have hR : R = a0.size := hro.out.2 hr
            have e2 : ((R : Int) == (a0.size : Int)) = true := by rw [hR]; simp
            clear hr hR ec
            go_wp2
            go_ret
            exact ⟨rfl, below_dn HB.out m⟩
    · have hemp := emp_true (s := a0) (by omega)
      have hcA := hid (fun w => periodAll_none w a0 (by omega))
      have hcE := hid (fun w => edgesAll_at w a0 hs [] (by rw [show a0.size = 0 from by omega]; rfl))
      have hcZ : Hid (∀ w, Calls Try.prog 22 #[.string a0] w (RetInts w [])) := fun w => by
        have := zetaEdges_ok w a0 hs
        rwa [show edgesAll (bt a0) a0.size = [] from by rw [show a0.size = 0 from by omega]; rfl] at this
      have hcR := hid (fun w => turnRoot_none w a0 (by omega))
      go_enter Try.func12, Try.ntmps12
      go_wp2_with fail
      refine (hcA.out _).mono ?_
      rintro e w1 ⟨A1, c1, rfl, ho1, hb1⟩
      go_wp2_with fail
      refine (hA2.out _).mono ?_
      rintro e w2 ⟨A2, c2, rfl, ho2, hb2⟩
      go_wp2_with fail
      refine (ints_lit _ A2 c2 _ _ _ [1, 2] [1, 2] ho2 rfl rfl (by decide) (by decide) true (by decide)).mono ?_
      rintro e w3 ⟨rfl, hb3⟩
      go_wp2_with fail
      refine (hcE.out _).mono ?_
      rintro e w4 ⟨A4, c4, rfl, ho4, hb4⟩
      go_wp2_with fail
      refine (hcZ.out _).mono ?_
      rintro e w5 ⟨A5, c5, rfl, ho5, hb5⟩
      go_wp2_with fail
      refine (hcR.out _).mono ?_
      rintro e w6 ⟨rfl, hb6⟩
      go_wp2_with fail
      refine (ints_eq _ A4 A5 c4 c5 _ _ [] [] 0 Sl.nil Sl.nil rfl rfl (by simp) (by simp) true (by decide)).mono ?_
      rintro e w7 ⟨rfl, hb7⟩
      go_wp2
      go_ret
      exact ⟨rfl, bch hb1 (bch hb2 (bch hb3 (bch hb4 (bch hb5 (bch hb6 hb7)))))⟩
  · go_enter Try.func12, Try.ntmps12
    go_wp2_with fail
    refine (periodAll_bad _ a0 (by omega) w0).mono ?_
    rintro e w1 ⟨rfl, hb1⟩
    go_wp2_with fail
    refine (hA2.out _).mono ?_
    rintro e w2 ⟨A2, c2, rfl, ho2, hb2⟩
    go_wp2_with fail
    refine (ints_lit _ A2 c2 _ _ _ [1, 2] [1, 2] ho2 rfl rfl (by decide) (by decide) true (by decide)).mono ?_
    rintro e w3 ⟨rfl, hb3⟩
    go_wp2
    go_ret
    exact ⟨rfl, bch hb1 (bch hb2 hb3)⟩
end Go.Proofs.Ytocbkapoibddaaa

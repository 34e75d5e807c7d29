/- letterbeckref1.LyndonParts; letterbecklaw1.LyndonSays returns true at every text: the walks. -/
import Derived.Test.YtknecfgacnknlaaDoorTold
import Derived.Test.YtknecfgacnknlaaDoorLynRef
import Derived.Test.YtknecfgacnknlaaDoorLynSPlain
import Derived.Test.YtknecfgacnknlaaDoorOwnAt
namespace Go.Proofs.YtknecfgacnknlaaDoor
set_option linter.unusedVariables false
set_option linter.unusedSimpArgs false
open Go.RowKit

/-- How long the text in a slot is. -/
def strLen : Value → Nat
  | .string s => s.size
  | _ => 0

theorem lyn_pre {t : ByteArray} {k : Nat} (hk : k ≤ t.size) : (t.extract 0 k).size = k ∧ (Lyn (bt (t.extract 0 k)) (t.extract 0 k).size ↔ Lyn (bt t) k) := by
  have hz : (t.extract 0 k).size = k := by simp; omega
  refine ⟨hz, ?_⟩
  rw [hz]
  exact lyn_ext fun j hj => by rw [bt_extract _ _ _ _ (by omega), Nat.zero_add]

set_option maxRecDepth 100000 in
set_option maxHeartbeats 1000000 in
theorem lynPartsRef_any (w : World) (s : ByteArray) (hs : s.size ≤ 24) (L : List Int) (hL : FacAt (bt s) s.size 0 L s.size) :
    Calls Tryd.prog 35 #[.string s] w (RetL w L) := by
  have HU := hid (fun l (h : FacAt (bt s) s.size 0 l s.size) => facAt_unique h hL)
  clear hL
  go_enter Tryd.func35, Tryd.ntmps35
  go_wp2_with fail
  go_loopw [0, 3] (fun a v wr => ∃ (t : ByteArray) (l : List Int), t.size ≤ 24 ∧ l.length ≤ 24 ∧ a = .string t ∧ Own wr w.heap.size v l ∧ Below w.heap.size w wr ∧ Hid (FPos (bt s) s.size t l)) (fun a _ _ => strLen a)
  case atStart => exact ⟨s, [], hs, by simp, rfl, Own.nil _ _, Below.refl _ _, fpos_start s⟩
  case round =>
    obtain ⟨t, l, ht, hl, rfl, ho, hb, hF⟩ := hrel
    by_cases hpos : 0 < t.size
    · have hpos' : (0 : Int) < t.size := by omega
      have hwr := hb.size
      have HB := hid hb
      have HO := hid ho
      clear hb ho
      go_wp2_with fail
      go_loopw [4, 5] (fun b i w2 => ∃ k q u : Nat, 2 ≤ k ∧ k ≤ t.size + 1 ∧ 1 ≤ q ∧ q < k ∧ b = .int .i64 q ∧ i = .int .i64 k ∧ w2 = wr.drewN u ∧ Hid (LBest (bt t) k q)) (fun _ i _ => 26 - (intOf i).toNat)
      case atStart => exact ⟨2, 1, 0, by omega, by omega, by omega, by omega, rfl, rfl, rfl, lbest_start _⟩
      case round =>
        obtain ⟨k, q, u, hk2, hk, hq1, hqk, rfl, rfl, rfl, hB⟩ := hrel
        by_cases hkn : k ≤ t.size
        · obtain ⟨hz, hiff⟩ := lyn_pre hkn
          have hz2 : (t.extract 0 k).size ≤ 1000 := by omega
          rcases Classical.em (Lyn (bt t) k) with hY | hY
          · have hc := hid (fun w => lynRef_any w (t.extract 0 k) hz2 true ⟨fun _ => hiff.2 hY, fun _ => rfl⟩)
            have Hn := hid (lbest_hit hB.out hY)
            clear hz hiff hY hz2
            go_wp2_with fail
            refine (hc.out _).mono ?_
            rintro e v1 ⟨rfl, m1, rfl⟩
            go_wp2
            go_roundw
            case rel => exact ⟨k + 1, k, _, by omega, by omega, by omega, by omega, rfl, by go_num, rfl, Hn⟩
            case measure => simp [intOf]; omega
          · have hc := hid (fun w => lynRef_any w (t.extract 0 k) hz2 false ⟨fun h => absurd h (by decide), fun h => absurd (hiff.1 h) hY⟩)
            have Hn := hid (lbest_miss hB.out hY)
            clear hz hiff hY hz2
            go_wp2_with fail
            refine (hc.out _).mono ?_
            rintro e v1 ⟨rfl, m1, rfl⟩
            go_wp2
            go_roundw
            case rel => exact ⟨k + 1, q, _, by omega, by omega, by omega, by omega, rfl, by go_num, rfl, Hn⟩
            case measure => simp [intOf]; omega
        · have hk1 : k = t.size + 1 := by omega
          have hB2 := hB.out
          rw [hk1] at hB2
          have hlen := fpos_len hF.out
          have Hn := hid (fpos_step hF.out (lbest_end hB2))
          have hln := fpos_len Hn.out
          have hq2 : q ≤ t.size := by omega
          have hsz : (t.extract q t.size).size = t.size - q := by simp
          have ho := HO.out
          have hll : (l ++ [(q : Int)]).length ≤ 24 := by simp; omega
          clear hB2 hk1 hB
          go_wp2_with (first
            | (at_builtin; go_must (refine wp_append_int _ rfl _ _ rfl w.heap.size _ _ rfl ((ho.drewN _).alloc _) _ _ (q : Int) rfl (new_one _ _ _ _) (by omega) (by first | omega | (simp; omega) | (simp [World.drewN]; omega)) ?_); intro v' w4 ho4 hg4; have hb4 : Below w.heap.size w w4 := ((below_dn HB.out _).alloc hwr _).grown hg4 (by first | omega | (simp; omega) | (simp [World.drewN]; omega)) (fun k hk => (ho.lt k hk).1)))
          go_roundw
          case rel => exact ⟨t.extract q t.size, _, by omega, hll, rfl, ho4, hb4, Hn⟩
          case measure => simp only [strLen]; omega
    · have h0 : t.size = 0 := by omega
      have hpos' : ¬ (0 : Int) < t.size := by omega
      have hE := HU.out l (fpos_end hF.out h0)
      subst hE
      obtain ⟨A1, c1, hv⟩ := ho.shape
      subst hv
      clear h0
      go_wp2
      go_ret
      exact ⟨A1, c1, rfl, ho, hb⟩

set_option maxRecDepth 100000 in
set_option maxHeartbeats 1000000 in
theorem walk_lyndonSays (a0 : ByteArray) (w0 : a0.size ≤ maxLen) (W : World) (hET : HasET W) :
    Calls Tryd.prog 8 #[.string a0] W fun e w' => e = .returned (.bool true) ∧ Below W.heap.size W w' := by
  have HT := hid (fun w (h : Below W.heap.size W w) => hET.below h)
  clear hET
  by_cases hs : a0.size ≤ 24
  · obtain ⟨L, hL⟩ := fac_exists (bt a0) a0.size a0.size 0 (by omega) (by omega)
    have hlen := facAt_len hL
    obtain ⟨b, hb⟩ : ∃ b : Bool, b = true ↔ Lyn (bt a0) a0.size := by
      rcases Classical.em (Lyn (bt a0) a0.size) with h | h
      · exact ⟨true, fun _ => h, fun _ => rfl⟩
      · exact ⟨false, fun h => absurd h (by decide), fun h2 => absurd h2 h⟩
    have Hr := hid (fun w => lynPartsRef_any w a0 hs L hL)
    have Hp := hid (fun w => lynParts_ok w a0 hs L hL)
    have Hi := hid (fun w => lynIs_ok w a0 hs b hb)
    have Hy := hid (fun w => lynRef_any w a0 (by omega) b hb)
    have hbb : (b == b) = true := by simp
    clear hL hb
    go_enter Tryd.func8, Tryd.ntmps8
    go_wp2_with fail
    refine (lawLong_ok _ a0 hs).mono ?_
    rintro e w1 ⟨rfl, rfl⟩
    go_wp2_with fail
    refine (Hr.out _).mono ?_
    rintro e w1 ⟨A1, c1, rfl, ho1, hb1⟩
    go_wp2_with fail
    refine (Hp.out _).mono ?_
    rintro e w3 ⟨A3, c3, rfl, ho3, hb3⟩
    have hB3 := bch hb1 hb3
    go_wp2_with fail
    refine (error_ok _ _ 0 (HT.out _ hB3) (.inl ⟨rfl, rfl⟩)).mono ?_
    rintro e w4 ⟨rfl, hb4⟩
    have hs1 := (((ho1.below hb3).below hb4).slB w4.heap.size (Nat.le_refl _))
    have hs3 := (ho3.below hb4).slB w4.heap.size (Nat.le_refl _)
    have hB4 := bch hB3 hb4
    have hi := hid (ints_eq w4 A3 A1 c3 c1 _ _ _ _ _ hs3 hs1 rfl rfl (by omega) (by omega) true (by simp))
    clear ho1 ho3 hb1 hb3 hb4 hs1 hs3 hB3
    go_wp2_with fail
    refine hi.out.mono ?_
    rintro e w5 ⟨rfl, hb5⟩
    have hB5 := bch hB4 hb5
    go_wp2_with fail
    refine (Hi.out _).mono ?_
    rintro e w6 ⟨rfl, hb6⟩
    have hB6 := bch hB5 hb6
    go_wp2_with fail
    refine (error_ok _ _ 0 (HT.out _ hB6) (.inl ⟨rfl, rfl⟩)).mono ?_
    rintro e w7 ⟨rfl, hb7⟩
    have hB7 := bch hB6 hb7
    go_wp2_with fail
    refine (Hy.out _).mono ?_
    rintro e w8 ⟨rfl, u8, rfl⟩
    go_wp2
    go_ret
    exact ⟨rfl, below_dn hB7 _⟩
  · go_enter Tryd.func8, Tryd.ntmps8
    go_wp2_with fail
    refine (lawLong_bad _ a0 (by omega)).mono ?_
    rintro e v1 ⟨rfl, rfl⟩
    go_wp2_with fail
    refine (lynParts_bad _ a0 (by omega) w0).mono ?_
    rintro e w3 ⟨rfl, hb3⟩
    go_wp2_with fail
    refine (error_ok _ _ 4 (HT.out _ hb3) (.inr rfl)).mono ?_
    rintro e w4 ⟨rfl, hb4⟩
    have hi := hid (ints_eq w4 none none 0 0 0 0 [] [] 0 Sl.nil Sl.nil rfl rfl (by decide) (by decide) true (by decide))
    have hB4 := bch hb3 hb4
    go_wp2_with fail
    refine hi.out.mono ?_
    rintro e w5 ⟨rfl, hb5⟩
    go_wp2_with fail
    refine (lynIs_bad _ a0 (by omega) w0).mono ?_
    rintro e w6 ⟨rfl, hb6⟩
    have hB6 := bch (bch hB4 hb5) hb6
    go_wp2_with fail
    refine (error_ok _ _ 4 (HT.out _ hB6) (.inr rfl)).mono ?_
    rintro e w7 ⟨rfl, hb7⟩
    go_wp2
    go_ret
    exact ⟨rfl, bch hB6 hb7⟩
end Go.Proofs.YtknecfgacnknlaaDoor

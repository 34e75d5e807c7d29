/- mirror.grow: of each place how far the mirror around it goes. -/
import Derived.Test.YthdckapielbonaaBase
import Derived.Test.YthdckapielbonaaMirPlain
namespace Go.Proofs.Ythdckapielbonaa
set_option linter.unusedVariables false
set_option linter.unusedSimpArgs false
open Go.RowKit

attribute [local go_sem] get_bt

/-- What the loop over the places keeps. -/
def GRel (w : World) (g : Nat) (s : ByteArray) (e i a r1 : Nat) (wr : World) : Prop :=
  Own wr g (.slice (some ⟨g, 0, none⟩) s.size s.size) (mTo (bt s) s.size e i) ∧ Below w.heap.size w wr ∧ MWin (bt s) s.size e i a r1

theorem grel_next {w wr : World} {g e k a r1 v : Nat} {s : ByteArray} (HG : Hid (w.heap.size = g)) (he : e ≤ 1) (h : GRel w g s e k a r1 wr) (hk : k < s.size)
    (hm : Mir (bt s) s.size e k v) (hv : mir (bt s) s.size e k = v) (m : Nat) (x : Int) (hx : x = (v : Int)) :
    GRel w g s e (k + 1) a r1 ((wr.drewN m).setCell ⟨g, k, none⟩ (.int .i64 x)) ∧ GRel w g s e (k + 1) (k + 1 - v - e) (k + v) ((wr.drewN m).setCell ⟨g, k, none⟩ (.int .i64 x)) := by
  subst hx
  have := HG.out
  obtain ⟨ho, hb, hw⟩ := h
  have h1 : Own ((wr.drewN m).setCell ⟨g, k, none⟩ (.int .i64 v)) g (.slice (some ⟨g, 0, none⟩) s.size s.size) (mTo (bt s) s.size e (k + 1)) := by
    rw [← mTo_set _ _ _ _ hk, hv]; exact (ho.drewN m).set k v
  have h2 : Below w.heap.size w ((wr.drewN m).setCell ⟨g, k, none⟩ (.int .i64 v)) := (below_dn hb m).setCell (p := ⟨g, k, none⟩) (by simp; omega) _
  refine ⟨⟨h1, h2, mwin_next hw⟩, h1, h2, ?_⟩
  by_cases h0 : 0 < v
  · exact mwin_new he hm h0
  · exact ⟨by omega, fun h => by omega⟩

set_option maxRecDepth 100000 in
set_option maxHeartbeats 1000000 in
theorem grow_any (w : World) (s : ByteArray) (e : Nat) (he : e ≤ 1) (hs : s.size ≤ 24) :
    Calls Try.prog 26 #[.string s, .int .i64 e] w fun r w' =>
      ∃ A c, r = .returned (.slice A s.size c) ∧ Own w' w.heap.size (.slice A s.size c) (mAll (bt s) s.size e) ∧ Below w.heap.size w w' := by
  go_enter Try.func26, Try.ntmps26
  go_wp2_with (at_make; refine wp_make_int _ rfl _ _ rfl w.heap.size s.size w.heap.size rfl rfl (by omega) (by simp) (by simp) ?_; intro w1 hown hg hsz)
  have hb0 : Below w.heap.size w w1 := (Below.refl _ _).grown hg (by simp) (fun k hk => by cases hk)
  rw [mTo_zero (bt s) s.size e] at hown
  clear hg
  obtain ⟨g, hG, HG⟩ : ∃ g, w.heap.size = g ∧ Hid (w.heap.size = g) := ⟨_, rfl, rfl⟩
  rw [hG] at hown hsz
  rw [hG]
  clear hG
  have He := hid he
  go_loopw [6, 7, 15] (fun l r i wr => ∃ a b k : Nat, k ≤ s.size ∧ a ≤ 25 ∧ b ≤ 24 ∧ i = .int .i64 k ∧ l = .int .i64 a ∧ r = .int .i64 ((b : Int) - 1) ∧ Hid (GRel w g s e k a b wr)) (fun _ _ i _ => s.size - (intOf i).toNat)
  case atStart => exact ⟨0, 0, 0, Nat.zero_le _, by omega, by omega, rfl, rfl, rfl, hown, hb0, mwin_start _ _ _⟩
  case round =>
    obtain ⟨a, b, k, hk, ha, hb, rfl, rfl, rfl, hZ⟩ := hrel
    by_cases hlt : k < s.size
    · obtain ⟨ho, hbe, hwin⟩ := id hZ.out
      have hwin' := hid hwin
      clear hwin
      have qc : wr.cell? ⟨g, k, none⟩ = some (.int .i64 0) := ho.cellAt (mTo_get0 (bt s) s.size e k hlt)
      have qf : wr.frozen? ⟨g, k, none⟩ = false := ho.frozenAt _
      have hcase : (¬ k < b ∧ Hid (Mir (bt s) s.size e k (1 - e))) ∨ ∃ J z : Nat, k < b ∧ J < k ∧ (a : Int) + ((b : Int) - 1) - k + e = J ∧ z ≤ 24 ∧ Hid (z = mir (bt s) s.size e J) ∧ ((((z : Int) ≤ (b : Int) - 1 - k + 1) ∧ Hid (Mir (bt s) s.size e k z)) ∨ (((b : Int) - 1 - k + 1 < (z : Int)) ∧ Hid (Mir (bt s) s.size e k (b - k)))) := by
        rcases Nat.lt_or_ge k b with h | h
        · obtain ⟨J, h1, h2, h3⟩ := mwin_use hwin'.out h
          refine .inr ⟨J, mir (bt s) s.size e J, h, h1, by omega, by have := mir_le (bt s) s.size e J; omega, rfl, ?_⟩
          by_cases h' : mir (bt s) s.size e J ≤ b - k
          · exact .inl ⟨by omega, h3 _ (Nat.le_refl _) h'⟩
          · exact .inr ⟨by omega, h3 _ (by omega) (Nat.le_refl _)⟩
        · refine .inl ⟨by omega, fun j hj => ⟨by omega, by omega, ?_⟩⟩
          rw [show k - j - e = k + j from by omega]
      have hrest : Hid (∀ v m (x : Int), Mir (bt s) s.size e k v → mir (bt s) s.size e k = v → x = (v : Int) → GRel w g s e (k + 1) a b ((wr.drewN m).setCell ⟨g, k, none⟩ (.int .i64 x)) ∧ GRel w g s e (k + 1) (k + 1 - v - e) (k + v) ((wr.drewN m).setCell ⟨g, k, none⟩ (.int .i64 x))) :=
        hid fun v m x h1 h2 h3 => grel_next HG he hZ.out hlt h1 h2 m x h3
      have qJ : Hid (∀ J : Nat, J < k → wr.cell? ⟨g, J, none⟩ = some (.int .i64 (mir (bt s) s.size e J))) := hid fun J h => ho.cellAt (mTo_get (bt s) s.size e k J h (by omega))
      clear hbe ho
      have hv0 : (¬ k < b ∧ Hid (Mir (bt s) s.size e k (1 - e))) ∨ ∃ J z : Nat, k < b ∧ J < k ∧ (a : Int) + ((b : Int) - 1) - k + e = J ∧ z ≤ 24 ∧ wr.cell? ⟨g, J, none⟩ = some (.int .i64 z) ∧ ((((z : Int) ≤ (b : Int) - 1 - k + 1) ∧ Hid (Mir (bt s) s.size e k z)) ∨ (((b : Int) - 1 - k + 1 < (z : Int)) ∧ Hid (Mir (bt s) s.size e k (b - k)))) := by
        rcases hcase with h | ⟨J, z, h1, h2, h3, h4, h5, h6⟩
        · exact .inl h
        · exact .inr ⟨J, z, h1, h2, h3, h4, by rw [h5.out]; exact qJ.out J h2, h6⟩
      clear hcase qJ
      rcases hv0 with ⟨hkb, hM⟩ | ⟨J, z, hkb, hJk, hJ, hz, hc, ⟨hle, hM⟩ | ⟨hle, hM⟩⟩
      all_goals go_wp2
      all_goals
        go_loopw [9] (fun x wr' => ∃ v m : Nat, x = .int .i64 v ∧ v ≤ s.size ∧ Hid (Mir (bt s) s.size e k v) ∧ wr' = wr.drewN m) (fun x _ => s.size - (intOf x).toNat)
        case atStart =>
          first
            | exact ⟨1 - e, 0, by go_num, by omega, hM, rfl⟩
            | exact ⟨z, 0, by go_num, by (have := mir_bd hM.out); omega, hM, rfl⟩
            | exact ⟨b - k, 0, by go_num, by omega, hM, rfl⟩
        case round =>
          obtain ⟨v, m, rfl, hv, hMv, rfl⟩ := hrel
          have HV := hid hv
          by_cases hmore : v + e ≤ k ∧ k + v < s.size ∧ bt s (k - v - e) = bt s (k + v)
          · have hnx : Hid (Mir (bt s) s.size e k (v + 1)) := hid fun j hj => by
              by_cases h : j = v
              · rw [h]; exact hmore
              · exact hMv.out j (by omega)
            obtain ⟨P, hP, hPn⟩ : ∃ P : Nat, (k : Int) - v - e = P ∧ P = k - v - e := ⟨k - v - e, by omega, rfl⟩
            have h1 : P < s.size := by omega
            have h2 : (k : Int) + v < s.size := by omega
            have h3 : k + v < s.size := hmore.2.1
            have h4 : ((bt s P : Int) == bt s (k + v)) = true := by rw [beq_iff_eq, hPn, hmore.2.2]
            have hm := hid hmore
            clear hmore hMv hPn
            go_wp2
            go_quiet (fail)
            go_wp2
            go_roundw
            case rel => exact ⟨v + 1, _, by go_num, by have := hm.out; omega, hnx, rfl⟩
            case measure => simp [intOf]; have := hm.out; omega
          · have hMk : mir (bt s) s.size e k = v := mir_eq (by omega) hMv.out hmore
            have HN := hid (fun m x h => hrest.out v m x hMv.out hMk h)
            have hdec : (∃ P : Nat, (k : Int) - v - e = P ∧ P < s.size ∧ k + v < s.size ∧ ((bt s P : Int) == bt s (k + v)) = false) ∨ (∃ P : Nat, (k : Int) - v - e = P ∧ ¬ k + v < s.size) ∨ (k : Int) - v - e < 0 := by
              by_cases h1 : v + e ≤ k
              · by_cases h2 : k + v < s.size
                · refine .inl ⟨k - v - e, by omega, by omega, h2, ?_⟩
                  rw [beq_eq_false_iff_ne]
                  intro h
                  exact hmore ⟨h1, h2, by omega⟩
                · exact .inr (.inl ⟨k - v - e, by omega, h2⟩)
              · exact .inr (.inr (by omega))
            clear hMk hmore
            have he' := He.out
            have hve := mir_bd hMv.out
            by_cases hbig : b < k + v
            · rcases hdec with ⟨P, hP, hP1, hP2, hP3⟩ | ⟨P, hP, hP1⟩ | hP
              · have hm3 : (k : Int) + v < s.size := by omega
                go_wp2
                go_quiet (fail)
                go_wp2
                all_goals try omega
                all_goals
                  go_roundw
                  case rel => exact ⟨k + 1 - v - e, k + v, k + 1, by omega, by omega, by have := HV.out; omega, by go_num, by go_num, by go_num, hid (HN.out _ _ (by omega)).2⟩
                  case measure => simp [intOf]; omega
              · have hm3 : ¬ (k : Int) + v < s.size := by omega
                have hm5 : decide ((k : Int) + v < s.size) = false := by simp; omega
                go_wp2
                go_quiet (fail)
                go_wp2
                all_goals try omega
                all_goals
                  go_roundw
                  case rel => exact ⟨k + 1 - v - e, k + v, k + 1, by omega, by omega, by have := HV.out; omega, by go_num, by go_num, by go_num, hid (HN.out _ _ (by omega)).2⟩
                  case measure => simp [intOf]; omega
              · obtain ⟨Z, hP, hZ1, hZ2⟩ : ∃ Z : Int, (k : Int) - v - e = Z ∧ Z < 0 ∧ -26 ≤ Z := ⟨_, rfl, hP, by omega⟩
                have hm3 : ¬ 0 ≤ Z := by omega
                have hm5 : decide (0 ≤ Z) = false := by simp; omega
                go_wp2
                go_quiet (fail)
                go_wp2
                all_goals try omega
                all_goals
                  go_roundw
                  case rel => exact ⟨k + 1 - v - e, k + v, k + 1, by omega, by omega, by have := HV.out; omega, by go_num, by go_num, by go_num, hid (HN.out _ _ (by omega)).2⟩
                  case measure => simp [intOf]; omega
            · rcases hdec with ⟨P, hP, hP1, hP2, hP3⟩ | ⟨P, hP, hP1⟩ | hP
              · have hm3 : (k : Int) + v < s.size := by omega
                go_wp2
                go_quiet (fail)
                go_wp2
                all_goals try omega
                all_goals
                  go_roundw
                  case rel => exact ⟨a, b, k + 1, by omega, by omega, by omega, by go_num, by go_num, by go_num, hid (HN.out _ _ (by omega)).1⟩
                  case measure => simp [intOf]; omega
              · have hm3 : ¬ (k : Int) + v < s.size := by omega
                have hm5 : decide ((k : Int) + v < s.size) = false := by simp; omega
                go_wp2
                go_quiet (fail)
                go_wp2
                all_goals try omega
                all_goals
                  go_roundw
                  case rel => exact ⟨a, b, k + 1, by omega, by omega, by omega, by go_num, by go_num, by go_num, hid (HN.out _ _ (by omega)).1⟩
                  case measure => simp [intOf]; omega
              · obtain ⟨Z, hP, hZ1, hZ2⟩ : ∃ Z : Int, (k : Int) - v - e = Z ∧ Z < 0 ∧ -26 ≤ Z := ⟨_, rfl, hP, by omega⟩
                have hm3 : ¬ 0 ≤ Z := by omega
                have hm5 : decide (0 ≤ Z) = false := by simp; omega
                go_wp2
                go_quiet (fail)
                go_wp2
                all_goals try omega
                all_goals
                  go_roundw
                  case rel => exact ⟨a, b, k + 1, by omega, by omega, by omega, by go_num, by go_num, by go_num, hid (HN.out _ _ (by omega)).1⟩
                  case measure => simp [intOf]; omega
    · go_wp2
      go_ret
      obtain ⟨ho, hbe, _⟩ := hZ.out
      rw [mTo_all _ _ _ _ (by omega)] at ho
      exact ⟨some ⟨g, 0, none⟩, s.size, rfl, ho.mono (by have := HG.out; omega), hbe⟩

theorem grow_i (w : World) (s : ByteArray) (x : Int) (hx : x = 0 ∨ x = 1) (hs : s.size ≤ 24) :
    Calls Try.prog 26 #[.string s, .int .i64 x] w fun r w' =>
      ∃ A c, r = .returned (.slice A s.size c) ∧ Own w' w.heap.size (.slice A s.size c) (mAll (bt s) s.size x.toNat) ∧ Below w.heap.size w w' := by
  rcases hx with rfl | rfl
  · exact grow_any w s 0 (by omega) hs
  · exact grow_any w s 1 (by omega) hs
end Go.Proofs.Ythdckapielbonaa

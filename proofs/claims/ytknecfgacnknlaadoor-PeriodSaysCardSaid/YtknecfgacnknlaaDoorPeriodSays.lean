/- letterbecklaw1.PeriodSays returns true at all arguments: the walk. -/
import Derived.Test.YtknecfgacnknlaaDoorTold
import Derived.Test.YtknecfgacnknlaaDoorPeriodAll
import Derived.Test.YtknecfgacnknlaaDoorPeriodRef
import Derived.Test.YtknecfgacnknlaaDoorInts
namespace Go.Proofs.YtknecfgacnknlaaDoor
set_option linter.unusedVariables false
set_option linter.unusedSimpArgs false
open Go.RowKit

noncomputable instance (f : Nat → Nat) (n p : Nat) : Decidable (Per f n p) := Classical.propDecidable _

/-- Rising lists of the same numbers are one. -/
theorem sorted_ext : ∀ (l l' : List Int), l.Pairwise (· < ·) → l'.Pairwise (· < ·) → (∀ x, x ∈ l ↔ x ∈ l') → l = l'
  | [], [], _, _, _ => rfl
  | [], b :: l', _, _, h => by have := (h b).2 (by simp); cases this
  | a :: l, [], _, _, h => by have := (h a).1 (by simp); cases this
  | a :: l, b :: l', h1, h2, h => by
    obtain ⟨h3, h4⟩ := List.pairwise_cons.1 h1
    obtain ⟨h5, h6⟩ := List.pairwise_cons.1 h2
    have e : a = b := by
      have ha := (h a).1 (by simp)
      have hb := (h b).2 (by simp)
      rcases List.mem_cons.1 ha with e | e
      · exact e
      · rcases List.mem_cons.1 hb with e2 | e2
        · exact e2.symm
        · have := h5 a e; have := h3 b e2; omega
    subst e
    rw [sorted_ext l l' h4 h6 fun x => ?_]
    constructor
    · intro hx
      rcases List.mem_cons.1 ((h x).1 (by simp [hx])) with e | e
      · have := h3 x hx; omega
      · exact e
    · intro hx
      rcases List.mem_cons.1 ((h x).2 (by simp [hx])) with e | e
      · have := h5 x hx; omega
      · exact e

/-- The periods below m. -/
noncomputable def perUp (f : Nat → Nat) (n m : Nat) : List Int := ((List.range m).filter fun k => decide (0 < k ∧ Per f n k)).map fun k : Nat => (k : Int)

theorem perUp_one (f : Nat → Nat) (n : Nat) : perUp f n 1 = [] := by simp [perUp, List.range_succ]
theorem perUp_hit {f : Nat → Nat} {n m : Nat} (h0 : 0 < m) (h : Per f n m) : perUp f n (m + 1) = perUp f n m ++ [(m : Int)] := by
  unfold perUp
  rw [List.range_succ, List.filter_append, List.map_append]
  simp [h0, h]
theorem perUp_miss {f : Nat → Nat} {n m : Nat} (h : ¬ Per f n m) : perUp f n (m + 1) = perUp f n m := by
  unfold perUp
  rw [List.range_succ, List.filter_append, List.map_append]
  simp [h]
theorem perUp_len (f : Nat → Nat) (n m : Nat) : (perUp f n m).length ≤ m := by
  unfold perUp
  rw [List.length_map]
  exact Nat.le_trans (List.length_filter_le _ _) (by simp)

theorem edgesAll_pair (f : Nat → Nat) (n : Nat) : (edgesAll f n).Pairwise (· < ·) := by
  unfold edgesAll
  rw [List.pairwise_map]
  exact (List.Pairwise.filter _ List.pairwise_lt_range).imp fun h => by omega

theorem perList_up {f : Nat → Nat} {n : Nat} (hn : 0 < n) : perList f n = perUp f n (n + 1) := by
  refine sorted_ext _ _ ?_ ?_ fun x => ?_
  · unfold perList
    rw [List.pairwise_append]
    refine ⟨?_, by simp, ?_⟩
    · rw [List.pairwise_map, List.pairwise_reverse]
      exact (edgesAll_pair f n).imp fun h => by omega
    · intro a ha b hb
      obtain ⟨y, hy, rfl⟩ := List.mem_map.1 ha
      obtain ⟨k, rfl, h1, h2⟩ := mem_edgesAll.1 (List.mem_reverse.1 hy)
      simp at hb
      omega
  · unfold perUp
    rw [List.pairwise_map]
    exact (List.Pairwise.filter _ List.pairwise_lt_range).imp fun h => by omega
  · rw [mem_perList hn]
    unfold perUp
    rw [List.mem_map]
    constructor
    · rintro ⟨p, rfl, h1, h2⟩
      exact ⟨p, List.mem_filter.2 ⟨by simp; have := h2.1; omega, by simpa using ⟨h1, h2⟩⟩, rfl⟩
    · rintro ⟨p, hp, rfl⟩
      have := (List.mem_filter.1 hp).2
      simp at this
      exact ⟨p, rfl, this.1, this.2⟩

/-- R.Period at whatever number. -/
theorem periodRef_all (w : World) (s : ByteArray) (k : Int) (hs : s.size ≤ 1000) (b : Bool) (hb : b = true ↔ ∃ p : Nat, k = p ∧ 0 < p ∧ Per (bt s) s.size p) :
    Calls Tryd.prog 23 #[.string s, .int .i64 k] w fun e w' => e = .returned (.bool b) ∧ ∃ m, w' = w.drewN m := by
  by_cases h : 1 ≤ k ∧ k ≤ s.size
  · obtain ⟨p, hp⟩ : ∃ p : Nat, k = p := ⟨k.toNat, by omega⟩
    subst hp
    refine periodRef_in w s p hs (by omega) (by omega) b (hid (hb.trans ⟨?_, fun h2 => ⟨p, rfl, by omega, h2⟩⟩))
    rintro ⟨q, h1, h2, h3⟩
    have : p = q := by omega
    rw [this]; exact h3
  · have hf : b = false := by
      cases b
      · rfl
      · obtain ⟨p, h1, h2, h3⟩ := hb.1 rfl
        have := h3.1
        exact absurd ⟨by omega, by omega⟩ h
    subst hf
    exact periodRef_out w s k hs h

theorem periodHas_none (w : World) (s : ByteArray) (k : Int) (hs : s.size = 0) :
    Calls Tryd.prog 25 #[.string s, .int .i64 k] w fun e w' => e = .returned (.tuple #[.bool false, .nilIface]) ∧ Below w.heap.size w w' :=
  periodHas_at w s k [] (by simp) (hid (periodAll_none w s hs)) false (hid (by simp))

theorem periodHas_says (w : World) (s : ByteArray) (k : Int) (hs : s.size ≤ 24) (b : Bool) (hb : b = true ↔ ∃ p : Nat, k = p ∧ 0 < p ∧ Per (bt s) s.size p) :
    Calls Tryd.prog 25 #[.string s, .int .i64 k] w fun e w' => e = .returned (.tuple #[.bool b, .nilIface]) ∧ Below w.heap.size w w' := by
  by_cases h0 : s.size = 0
  · have hf : b = false := by
      cases b
      · rfl
      · obtain ⟨p, h1, h2, h3⟩ := hb.1 rfl
        have := h3.1
        omega
    subst hf
    exact periodHas_none w s k h0
  · refine periodHas_at w s k _ ?_ (hid (periodAll_ok w s hs (by omega))) b (hid ?_)
    · rw [perList_len]; have := edgesAll_len (bt s) s.size; omega
    · rw [Bool.eq_iff_iff, decide_eq_true_eq, mem_perList (by omega)]
      exact hb.symm

theorem periodAll_says (w : World) (s : ByteArray) (hs : s.size ≤ 24) : Calls Tryd.prog 24 #[.string s] w (RetInts w (perUp (bt s) s.size (s.size + 1))) := by
  by_cases h0 : s.size = 0
  · have : perUp (bt s) s.size (s.size + 1) = [] := by rw [h0]; exact perUp_one _ _
    rw [this]
    exact periodAll_none w s h0
  · rw [← perList_up (by omega)]
    exact periodAll_ok w s hs (by omega)

set_option maxRecDepth 100000 in
set_option maxHeartbeats 1000000 in
theorem walk_periodSays (a0 : ByteArray) (w0 : a0.size ≤ maxLen) (a1 : Int) (w1 : (Lit.int .i64 a1).wf = true) (W : World) (hET : HasET W) :
    Calls Tryd.prog 5 #[.string a0, .int .i64 a1] W fun e w' => e = .returned (.bool true) ∧ Below W.heap.size W w' := by
  have HT := hid (fun w (h : Below W.heap.size W w) => hET.below h)
  clear hET w1
  by_cases hs : a0.size ≤ 24
  · obtain ⟨x, hx⟩ : ∃ x : Bool, x = true ↔ ∃ p : Nat, a1 = p ∧ 0 < p ∧ Per (bt a0) a0.size p := by
      rcases Classical.em (∃ p : Nat, a1 = p ∧ 0 < p ∧ Per (bt a0) a0.size p) with h | h
      · exact ⟨true, by simp [h]⟩
      · exact ⟨false, by simp [h]⟩
    have Hall := hid (fun w => periodAll_says w a0 hs)
    have Hhas := hid (fun w => periodHas_says w a0 a1 hs x hx)
    have Href := hid (fun w => periodRef_all w a0 a1 (by omega) x hx)
    have Hrk := hid (fun w (k : Nat) (h0 : 0 < k) (hk : k ≤ a0.size) b hb => periodRef_in w a0 k (by omega) h0 hk b hb)
    have hlp := perUp_len (bt a0) a0.size (a0.size + 1)
    clear hx
    go_enter Tryd.func5, Tryd.ntmps5
    go_wp2_with fail
    refine (lawLong_ok _ a0 hs).mono ?_
    rintro e v1 ⟨rfl, rfl⟩
    go_wp2_with fail
    go_loopw [6, 7] (fun v t wr => ∃ m : Nat, 0 < m ∧ m ≤ a0.size + 1 ∧ t = .int .i64 m ∧ Own wr W.heap.size v (perUp (bt a0) a0.size m) ∧ Below W.heap.size W wr) (fun _ t _ => 26 - (intOf t).toNat)
    case atStart => exact ⟨1, by omega, by omega, rfl, by rw [perUp_one]; exact Own.nil _ _, Below.refl _ _⟩
    case round =>
      obtain ⟨m, hm0, hm, rfl, ho, hb⟩ := hrel
      have hlen := perUp_len (bt a0) a0.size m
      have hwr := hb.size
      by_cases hlt : m ≤ a0.size
      · by_cases hp : Per (bt a0) a0.size m
        · have Hr := hid (fun w => Hrk.out w m hm0 hlt true ⟨fun _ => hp, fun _ => rfl⟩)
          have Hst := hid (perUp_hit hm0 hp)
          clear hp
          go_wp2_with fail
          refine (Hr.out _).mono ?_
          rintro e w2 ⟨rfl, u, rfl⟩
          go_wp2_with (first
            | (at_builtin; go_must (refine wp_append_int _ rfl _ _ rfl W.heap.size _ _ rfl ((ho.drewN _).alloc _) _ _ (m : Int) rfl (new_one _ _ _ _) (by omega) (by first | omega | (simp; omega) | (simp [World.drewN]; omega)) ?_); intro v' w4 ho4 hg4; have hb4 : Below W.heap.size W w4 := ((below_dn hb _).alloc hwr _).grown hg4 (by first | omega | (simp; omega) | (simp [World.drewN]; omega)) (fun k hk => (ho.lt k hk).1)))
          go_roundw
          case rel => exact ⟨m + 1, by omega, by omega, by go_num, by rw [Hst.out]; exact ho4, hb4⟩
          case measure => simp [intOf]; omega
        · have Hr := hid (fun w => Hrk.out w m hm0 hlt false ⟨fun h => absurd h (by decide), fun h => absurd h hp⟩)
          have Hst := hid (perUp_miss (m := m) hp)
          clear hp
          go_wp2_with fail
          refine (Hr.out _).mono ?_
          rintro e w2 ⟨rfl, u, rfl⟩
          go_wp2
          go_roundw
          case rel => exact ⟨m + 1, by omega, by omega, by go_num, by rw [Hst.out]; exact ho.drewN _, below_dn hb _⟩
          case measure => simp [intOf]; omega
      · have hmn : m = a0.size + 1 := by omega
        rw [hmn] at ho
        clear hmn
        generalize perUp (bt a0) a0.size (a0.size + 1) = L at *
        obtain ⟨A1, c1, hv⟩ := ho.shape
        subst hv
        go_wp2_with fail
        refine (Hall.out _).mono ?_
        rintro e w3 ⟨A3, c3, rfl, ho3, hb3⟩
        have hB3 := bch hb hb3
        go_wp2_with fail
        refine (error_ok _ _ 0 (HT.out _ hB3) (.inl ⟨rfl, rfl⟩)).mono ?_
        rintro e w4 ⟨rfl, hb4⟩
        have hs1 := (((ho.below hb3).below hb4).slB w4.heap.size (Nat.le_refl _))
        have hs3 := (ho3.below hb4).slB w4.heap.size (Nat.le_refl _)
        have hB4 := bch hB3 hb4
        have hi := hid (ints_eq w4 A3 A1 c3 c1 _ _ _ _ _ hs3 hs1 rfl rfl (by omega) (by omega) true (by simp))
        clear ho ho3 hb hb3 hb4 hs1 hs3 hB3
        go_wp2_with fail
        refine hi.out.mono ?_
        rintro e w5 ⟨rfl, hb5⟩
        go_wp2_with fail
        refine (Hhas.out _).mono ?_
        rintro e w6 ⟨rfl, hb6⟩
        have hB6 := bch (bch hB4 hb5) hb6
        go_wp2_with fail
        refine (error_ok _ _ 0 (HT.out _ hB6) (.inl ⟨rfl, rfl⟩)).mono ?_
        rintro e w7 ⟨rfl, hb7⟩
        go_wp2_with fail
        refine (Href.out _).mono ?_
        rintro e w8 ⟨rfl, u, rfl⟩
        cases x
        all_goals
          go_wp2
          go_ret
          exact ⟨rfl, below_dn (bch hB6 hb7) _⟩
  · go_enter Tryd.func5, Tryd.ntmps5
    go_wp2_with fail
    refine (lawLong_bad _ a0 (by omega)).mono ?_
    rintro e v1 ⟨rfl, rfl⟩
    go_wp2_with fail
    go_loopw [6, 7] (fun v t wr => v = .slice none 0 0 ∧ t = .int .i64 1 ∧ wr = W) (fun _ _ _ => 0)
    case atStart => exact ⟨rfl, rfl, rfl⟩
    case round =>
      obtain ⟨rfl, rfl, rfl⟩ := hrel
      have hge : (1 : Int) ≤ a0.size := by omega
      go_wp2_with fail
      refine (periodAll_bad _ a0 (by omega) w0).mono ?_
      rintro e w3 ⟨rfl, hb3⟩
      go_wp2_with fail
      refine (error_ok _ _ 4 (HT.out _ hb3) (.inr rfl)).mono ?_
      rintro e w4 ⟨rfl, hb4⟩
      have hi := hid (ints_eq w4 none none 0 0 0 0 [] [] 0 Sl.nil Sl.nil rfl rfl (by decide) (by decide) true (by decide))
      have hB4 := bch hb3 hb4
      go_wp2_with fail
      refine hi.out.mono ?_
      rintro e w5 ⟨rfl, hb5⟩
      go_wp2_with fail
      refine (periodHas_bad _ a0 a1 (by omega) w0).mono ?_
      rintro e w6 ⟨rfl, hb6⟩
      have hB6 := bch (bch hB4 hb5) hb6
      go_wp2_with fail
      refine (error_ok _ _ 4 (HT.out _ hB6) (.inr rfl)).mono ?_
      rintro e w7 ⟨rfl, hb7⟩
      go_wp2
      go_ret
      exact ⟨rfl, bch hB6 hb7⟩
end Go.Proofs.YtknecfgacnknlaaDoor

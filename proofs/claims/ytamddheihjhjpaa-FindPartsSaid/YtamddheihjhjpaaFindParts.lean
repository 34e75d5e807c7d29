/- letterbecklaw1.FindParts returns true at all arguments: the walk. -/
import Derived.Test.YtamddheihjhjpaaFindNear
import Derived.Test.YtamddheihjhjpaaOwnAt
import Derived.Test.YtamddheihjhjpaaPartsPlain
namespace Go.Proofs.Ytamddheihjhjpaa
set_option linter.unusedVariables false
set_option linter.unusedSimpArgs false
open Go.RowKit

theorem parts_of (a b s : ByteArray) (hpos : 0 < s.size) : (posI (bt s) s.size (bt (a ++ b)) (a.size + b.size)).filter (offCut s.size a.size) = posI (bt s) s.size (bt a) a.size ++ (posI (bt s) s.size (bt b) b.size).map fun y => y + (a.size : Int) :=
  pos_parts hpos (fun j hj => by rw [bt_append, if_pos hj]) (fun j hj => by rw [bt_append, if_neg (by omega)]; congr 1; omega)

theorem take_filter_step {α : Type} {p : α → Bool} {L : List α} {j : Nat} {x : α} (h : L[j]? = some x) : (L.take (j + 1)).filter p = (L.take j).filter p ++ if p x then [x] else [] := by
  obtain ⟨h1, h2⟩ := List.getElem?_eq_some_iff.1 h
  rw [List.take_succ_eq_append_getElem h1, List.filter_append, h2]
  congr 1
  by_cases e : p x <;> simp [e]
theorem take_map_step {α β : Type} {f : α → β} {L : List α} {j : Nat} {x : α} (h : L[j]? = some x) : (L.take (j + 1)).map f = (L.take j).map f ++ [f x] := by
  obtain ⟨h1, h2⟩ := List.getElem?_eq_some_iff.1 h
  rw [List.take_succ_eq_append_getElem h1, List.map_append, h2]
  rfl

set_option maxRecDepth 100000 in
set_option maxHeartbeats 2000000 in
theorem walk_findParts (a0 : ByteArray) (w0 : a0.size ≤ maxLen) (z0 : a0.size ≤ 140737488355328) (a1 : ByteArray) (w1 : a1.size ≤ maxLen) (z1 : a1.size ≤ 140737488355328) (a2 : ByteArray) (w2 : a2.size ≤ maxLen) (z2 : a2.size ≤ 140737488355328) (W : World) :
    Calls Try.prog 7 #[.string a0, .string a1, .string a2] W fun e w' => e = .returned (.bool true) ∧ Below W.heap.size W w' := by
  have hsum : (a0 ++ a1).size = a0.size + a1.size := ByteArray.size_append
  have hsum2 : (a0 ++ a1).size ≤ maxLen := by unfold maxLen; omega
  rcases check_cases (a0 ++ a1) a2 hsum2 w2 with ⟨ht, hs, hpos⟩ | ⟨_, x, hx⟩
  · rw [hsum] at ht
    have Hall := hid (parts_of a0 a1 a2 hpos)
    have hl0 := pos_len (bt a2) a2.size (bt (a0 ++ a1)) (a0.size + a1.size)
    have hl1 := pos_len (bt a2) a2.size (bt a0) a0.size
    have hl2 := pos_len (bt a2) a2.size (bt a1) a1.size
    rw [← posI_len] at hl0 hl1 hl2
    have hb0 : ∀ (j : Nat) (x : Int), (posI (bt a2) a2.size (bt (a0 ++ a1)) (a0.size + a1.size))[j]? = some x → 0 ≤ x ∧ x ≤ 24 := fun j x h => posI_bd hpos ht h
    have hb2 : ∀ (j : Nat) (x : Int), (posI (bt a2) a2.size (bt a1) a1.size)[j]? = some x → 0 ≤ x ∧ x ≤ 24 := fun j x h => posI_bd hpos (by omega) h
    have Hb0 := hid hb0
    have Hb2 := hid hb2
    have Hc0 := hid (fun w => findAll_ok w (a0 ++ a1) a2 (by omega) hs hpos)
    rw [hsum] at Hc0
    have Hc1 := hid (fun w => findAll_ok w a0 a2 (by omega) hs hpos)
    have Hc2 := hid (fun w => findAll_ok w a1 a2 (by omega) hs hpos)
    clear hb0 hb2 hsum hsum2
    generalize posI (bt a2) a2.size (bt (a0 ++ a1)) (a0.size + a1.size) = L at *
    generalize posI (bt a2) a2.size (bt a0) a0.size = X at *
    generalize posI (bt a2) a2.size (bt a1) a1.size = Y at *
    have hcat : a0.size + a1.size ≤ 9223372036854775807 := by omega
    go_enter Try.func7, Try.ntmps7
    go_wp2_with fail
    refine (findFact_true _).mono ?_
    rintro e v1 ⟨rfl, hb1⟩
    go_wp2_with fail
    refine (Hc0.out _).mono ?_
    rintro e v2 ⟨A0, c0, rfl, ho0, hb2⟩
    go_wp2_with fail
    refine (Hc1.out _).mono ?_
    rintro e v3 ⟨A1, c1, rfl, ho1, hb3⟩
    go_wp2_with fail
    refine (Hc2.out _).mono ?_
    rintro e v4 ⟨A2, c2, rfl, ho2, hb4⟩
    go_wp2_with fail
    have hB := bch (bch (bch hb1 hb2) hb3) hb4
    have hs0 : Sl v4 v4.heap.size A0 (ints L) := ((ho0.below hb3).below hb4).slB _ (Nat.le_refl _)
    have ho1' := ho1.below hb4
    have hx1 := hid (ho1.lt)
    have hv23 := hb3.size
    have hv34 := hb4.size
    have hv12 := hB.size
    have hle0 := hid (Nat.le_trans hb1.size hb2.size)
    clear hb1 hb2 hb3 hb4 ho0 ho1
    have HB := hid hB
    clear hB
    go_loopw [14, 15] (fun v i wr => ∃ j : Nat, j ≤ L.length ∧ i = .int .i64 j ∧ Own wr v4.heap.size v ((L.take j).filter (offCut a2.size a0.size)) ∧ Below v4.heap.size v4 wr) (fun _ i _ => L.length - (intOf i).toNat)
    case atStart => exact ⟨0, Nat.zero_le _, rfl, Own.nil _ _, Below.refl _ _⟩
    case round =>
      obtain ⟨j, hj, rfl, ho, hb⟩ := hrel
      have hwr := hb.size
      by_cases hlt : j < L.length
      · obtain ⟨g, o, hA, hg, hc⟩ := hs0 (ints_ne (by omega))
        subst hA
        obtain ⟨x, hx⟩ : ∃ x, L[j]? = some x := ⟨_, List.getElem?_eq_getElem hlt⟩
        have q1 : wr.cell? ⟨g, o + j, none⟩ = some (.int .i64 x) := (hb.cell (p := ⟨g, o + j, none⟩) hg).trans (hc _ _ (ints_get' hx))
        have hxb := Hb0.out _ _ hx
        have hst := take_filter_step (p := offCut a2.size a0.size) hx
        have Hst := hid hst
        have hfl : ((L.take j).filter (offCut a2.size a0.size)).length ≤ 24 := Nat.le_trans (List.length_filter_le _ _) (by simp; omega)
        clear hst hc hx hs0
        by_cases hcut : offCut a2.size a0.size x = true
        · have hcut' : x + (a2.size : Int) ≤ a0.size ∨ (a0.size : Int) ≤ x := by simpa [offCut] using hcut
          have Hnx : Hid ((L.take (j + 1)).filter (offCut a2.size a0.size) = (L.take j).filter (offCut a2.size a0.size) ++ [x]) := hid (by rw [Hst.out, if_pos hcut])
          clear hcut
          have hca : x + (a2.size : Int) ≤ a0.size ∨ (¬ x + (a2.size : Int) ≤ a0.size ∧ (a0.size : Int) ≤ x) := by omega
          clear hcut'
          rcases hca with h | ⟨h, h'⟩
          all_goals
            go_wp2_with (first
              | (at_builtin; refine wp_append_int _ rfl _ _ rfl v4.heap.size _ _ rfl (ho.alloc _) _ _ x rfl (by simp) (by omega) (by simp; omega) ?_; intro v' w2 ho2 hg2; have hb2 : Below v4.heap.size v4 w2 := (hb.alloc hwr _).grown hg2 (by simp; omega) (fun k hk => (ho.lt k hk).1)))
            go_roundw
            case rel => exact ⟨j + 1, by omega, by go_num, by rw [Hnx.out]; exact ho2, hb2⟩
            case measure => simp [intOf]; omega
        · have hcut' : ¬ x + (a2.size : Int) ≤ a0.size ∧ ¬ (a0.size : Int) ≤ x := by simpa [offCut] using hcut
          have Hnx : Hid ((L.take (j + 1)).filter (offCut a2.size a0.size) = (L.take j).filter (offCut a2.size a0.size)) := hid (by rw [Hst.out, if_neg hcut, List.append_nil])
          clear hcut
          obtain ⟨h, h'⟩ := hcut'
          go_wp2
          go_roundw
          case rel => exact ⟨j + 1, by omega, by go_num, by rw [Hnx.out]; exact ho, hb⟩
          case measure => simp [intOf]; omega
      · have hjl : j = L.length := by omega
        rw [hjl, List.take_length] at ho
        rw [Hall.out] at ho
        clear hjl hs0
        obtain ⟨A3, c3, hv⟩ := ho.shape
        obtain ⟨nz, hnz⟩ : ∃ nz, (X ++ Y.map fun y => y + (a0.size : Int)).length = nz := ⟨_, rfl⟩
        have Hnz := hid hnz
        rw [hnz] at hv
        clear hnz
        subst hv
        have hoX := ho1'.below (hb.mono (Nat.le_refl _))
        have hsB : Sl wr wr.heap.size A3 _ := ho.slB _ (Nat.le_refl _)
        have hsY : Sl wr v4.heap.size A2 (ints Y) := ((ho2.slB _ (Nat.le_refl _)).below hb)
        have hne3 : ∀ g o, A3 = some ⟨g, o, none⟩ → some g ≠ (Value.slice A1 X.length c1).ownBlock := fun g o e e2 => by
          have h1 := (ho.lt g (own_block e)).1
          have h2 := (hx1.out g e2.symm).2
          omega
        have hne2 : ∀ g o, A2 = some ⟨g, o, none⟩ → some g ≠ (Value.slice A1 X.length c1).ownBlock := fun g o e e2 => by
          have h1 := (ho2.lt g (own_block e)).1
          have h2 := (hx1.out g e2.symm).2
          omega
        have HsB := hid (fun (wr' : World) v (h : Grew wr (.slice A1 X.length c1) wr' v) => hsB.grew h (Nat.le_refl _) hne3)
        have HsY := hid (fun (wr' : World) v (h : Grew wr (.slice A1 X.length c1) wr' v) => hsY.grew h hb.size hne2)
        have hlo : ∀ k, (Value.slice A1 X.length c1).ownBlock = some k → v2.heap.size ≤ k := fun k hk => (hx1.out k hk).1
        have Hlo := hid hlo
        clear ho ho2 hsB hsY hne3 hne2 hlo
        go_wp2_with fail
        go_loopw [10, 16] (fun v i wr' => ∃ j : Nat, j ≤ Y.length ∧ i = .int .i64 j ∧ Own wr' v2.heap.size v (X ++ (Y.take j).map fun y => y + (a0.size : Int)) ∧ Hid (Grew wr (.slice A1 X.length c1) wr' v)) (fun _ i _ => Y.length - (intOf i).toNat)
        case atStart => exact ⟨0, Nat.zero_le _, rfl, by simpa using hoX, Grew.refl _ _⟩
        case round =>
          clear hoX
          obtain ⟨j, hj, rfl, ho, hgr⟩ := hrel
          have hwr2 := hgr.out.1.size
          by_cases hlt : j < Y.length
          · obtain ⟨g, o, hA, hg, hc⟩ := HsY.out _ _ hgr.out (ints_ne (by omega))
            subst hA
            obtain ⟨x, hx⟩ : ∃ x, Y[j]? = some x := ⟨_, List.getElem?_eq_getElem hlt⟩
            have q1 := hc _ _ (ints_get' hx)
            have hxb := Hb2.out _ _ hx
            have hst := take_map_step (f := fun y => y + (a0.size : Int)) hx
            have Hst := hid hst
            have hfl : (X ++ (Y.take j).map fun y => y + (a0.size : Int)).length ≤ 48 := by simp; omega
            clear hst hc hx
            go_wp2_with (first
              | (at_builtin; refine wp_append_int_at _ rfl _ _ rfl v2.heap.size _ _ rfl (ho.alloc _) _ _ (x + (a0.size : Int)) rfl (by simp) (by omega) (by simp; omega) ?_; intro v' w2 ho2 hg2 hat; have hgr2 := hid (hgr.out.step 0 _ hg2 hat)))
            go_roundw
            case rel => exact ⟨j + 1, by omega, by go_num, by rw [Hst.out, ← List.append_assoc]; exact ho2, hgr2⟩
            case measure => simp [intOf]; omega
          · have hjl : j = Y.length := by omega
            rw [hjl, List.take_length] at ho
            obtain ⟨A4, c4, hv⟩ := ho.shape
            subst hv
            have hfl : (X ++ Y.map fun y => y + (a0.size : Int)).length ≤ 48 := by simp; omega
            have hsB2 := HsB.out _ _ hgr.out
            have hsX := ho.slB _ (Nat.le_refl _)
            have hi := ints_eq _ A3 A4 c3 c4 nz _ _ _ _ (hsB2.mono hgr.out.1.size) hsX Hnz.out rfl (by have := Hnz.out; omega) (by omega) true (by simp)
            have Hi := hid hi
            clear hi hsB2 hsX ho hjl
            generalize X ++ Y.map (fun y => y + (a0.size : Int)) = Z at *
            go_wp2_with (go_at_call 17; refine Hi.out.mono ?_; rintro e w6 ⟨rfl, hb6⟩)
            go_ret
            refine ⟨rfl, ?_⟩
            have h1 := hgr.out.below (by omega) Hlo.out
            have h2 := bch HB.out hb
            exact h2.trans ((h1.mono hle0.out).trans (hb6.mono (by have := h1.size; have := h2.size; omega)))
  · go_enter Try.func7, Try.ntmps7
    go_wp2_with fail
    refine (findFact_true _).mono ?_
    rintro e v1 ⟨rfl, hb1⟩
    go_wp2_with fail
    refine (findAll_err _ (a0 ++ a1) a2 x hx).mono ?_
    rintro e v2 ⟨rfl, hb2⟩
    go_wp2
    go_ret
    exact ⟨rfl, bch hb1 hb2⟩
end Go.Proofs.Ytamddheihjhjpaa

/- letterbeckref1.Hits, letterbeckref1.Cut. -/
import Derived.Test.YtknecfgacnknlaaDoorManyCut
import Derived.Test.YtknecfgacnknlaaDoorLongestRef
namespace Go.Proofs.YtknecfgacnknlaaDoor
set_option linter.unusedVariables false
set_option linter.unusedSimpArgs false
open Go.RowKit

theorem hitsTo_succ (ws : List ByteArray) (t : ByteArray) (i : Nat) : hitsTo ws t (i + 1) = hitsTo ws t i ++ hitsAt ws t ws.length i := by
  unfold hitsTo
  rw [List.range_succ, List.flatMap_append, List.flatMap_singleton]
theorem hitsAt_hit {ws : List ByteArray} {t : ByteArray} {k a : Nat} (h : Hit ws t a k) : hitsAt ws t (k + 1) a = hitsAt ws t k a ++ [((a : Int), (k : Int))] := by
  unfold hitsAt
  rw [List.range_succ, List.filter_append, List.map_append]
  simp [h]
theorem hitsAt_miss {ws : List ByteArray} {t : ByteArray} {k a : Nat} (h : ¬ Hit ws t a k) : hitsAt ws t (k + 1) a = hitsAt ws t k a := by
  unfold hitsAt
  rw [List.range_succ, List.filter_append, List.map_append]
  simp [h]
theorem hitsAt_len (ws : List ByteArray) (t : ByteArray) (k a : Nat) : (hitsAt ws t k a).length ≤ k := by
  unfold hitsAt
  rw [List.length_map]
  exact Nat.le_trans (List.length_filter_le _ _) (by simp)
theorem hitsTo_len (ws : List ByteArray) (t : ByteArray) : ∀ i, (hitsTo ws t i).length ≤ i * ws.length
  | 0 => by simp [hitsTo]
  | i + 1 => by
    have := hitsTo_len ws t i
    have := hitsAt_len ws t ws.length i
    rw [hitsTo_succ, List.length_append, Nat.add_mul, Nat.one_mul]; omega

theorem begins_tail (w : World) (q : Nat) (t s : ByteArray) (i : Nat) (hi : i ≤ t.size) (ht : t.size ≤ maxLen) (hs : s.size ≤ maxLen) (b : Bool) (hb : b = true ↔ At (bt s) s.size (bt t) t.size i) :
    Calls Tryd.prog 67 #[.string (t.extract i t.size), .string s] (w.drewN q) fun e w' => e = .returned (.bool b) ∧ ∃ m, w' = w.drewN m :=
  (begins_at (w.drewN q) t s i hi ht hs b hb).mono fun _ _ ⟨h, h'⟩ => ⟨h, q, h'.symm⟩

set_option maxRecDepth 100000 in
set_option maxHeartbeats 4000000 in
theorem hitsRef_any (w : World) (A : Option Addr) (c : Nat) (ws : List ByteArray) (h : Sl w w.heap.size A (ws.map Value.string)) (hW : WAll ws) (t : ByteArray) (ht : t.size ≤ 24) :
    Calls Tryd.prog 58 #[.slice A ws.length c, .string t] w fun e w' => ∃ v, e = .returned v ∧ OwnH w' w.heap.size v (hitsL ws t) ∧ Below w.heap.size w w' := by
  have HZ := hid (wall_size hW)
  have hl6 := hW.1
  obtain ⟨i0, hi0, hz0, hz1, hz2⟩ := info_parts info_hit
  clear hW
  go_enter Tryd.func58, Tryd.ntmps58
  go_wp2_with fail
  go_loopw [5, 6] (fun v i wr => ∃ a : Nat, a ≤ t.size ∧ i = .int .i64 a ∧ Hid (Below w.heap.size w wr) ∧ Hid (OwnH wr w.heap.size v (hitsTo ws t a))) (fun _ i _ => t.size - (intOf i).toNat)
  case atStart => exact ⟨0, by omega, rfl, hid (Below.refl _ _), hid (OwnH.nil _ _)⟩
  case round =>
    obtain ⟨a, ha, rfl, hb, ho⟩ := hrel
    by_cases hlt : a < t.size
    · have hlt' : (a : Int) < t.size := by omega
      have hTl := hitsTo_len ws t a
      have hTl2 : (hitsTo ws t a).length ≤ 200 := by
        have : a * ws.length ≤ 24 * 6 := Nat.mul_le_mul (by omega) hl6
        omega
      have Hsu := hid (hitsTo_succ ws t a)
      clear hTl
      go_wp2_with fail
      go_loopw [5, 7] (fun v j wi => ∃ k : Nat, k ≤ ws.length ∧ j = .int .i64 k ∧ Hid (Below w.heap.size w wi) ∧ Hid (OwnH wi w.heap.size v (hitsTo ws t a ++ hitsAt ws t k a))) (fun _ j _ => ws.length - (intOf j).toNat)
      case atStart => exact ⟨0, by omega, rfl, hb, by rw [show hitsAt ws t 0 a = [] from rfl, List.append_nil]; exact ho⟩
      case round =>
        clear hb ho
        obtain ⟨k, hk, rfl, hb, ho⟩ := hrel
        by_cases hkl : k < ws.length
        · have hkl' : (k : Int) < ws.length := by omega
          obtain ⟨g, o, hA, hg, hcell⟩ := h (by intro e; simp at e; simp [e] at hkl)
          have q := (hb.out.cell (p := ⟨g, o + k, none⟩) hg).trans (hcell k _ (wat_get hkl))
          have hsz := HZ.out k hkl
          have hAl := hitsAt_len ws t k a
          have hLl : (hitsTo ws t a ++ hitsAt ws t k a).length ≤ 300 := by rw [List.length_append]; omega
          have hbs := hb.out.size
          obtain ⟨s, hs, Hs⟩ : ∃ s, wat ws k = s ∧ Hid (wat ws k = s) := ⟨_, rfl, rfl⟩
          rw [hs] at q hsz
          subst hA
          rcases Classical.em (Hit ws t a k) with hh | hh
          · have Hm := hid (hitsAt_hit hh)
            unfold Hit at hh
            rw [Hs.out] at hh
            have hcb := hid (fun w q => begins_tail w q t s a (by omega) (by unfold maxLen; omega) (by unfold maxLen; omega) true ⟨fun _ => hh, fun _ => rfl⟩)
            obtain ⟨L, hL⟩ : ∃ L, hitsTo ws t a ++ hitsAt ws t k a = L := ⟨_, rfl⟩
            have Hm2 := hid (show hitsTo ws t a ++ hitsAt ws t (k + 1) a = L ++ [((a : Int), (k : Int))] by rw [Hm.out, ← List.append_assoc, hL])
            rw [hL] at ho hLl
            clear hcell hs hh hL hAl Hm
            go_wp2_with fail
            go_quiet ((go_at_call 67; exact hcb.out _ _))
            have HoA := hid (fun o => (OwnH.below (show OwnH (wr.drewN nq) w.heap.size _ L from ho.out) ((Below.refl _ _).alloc (Nat.le_refl _) o)))
            have hbq : Below w.heap.size w (wr.drewN nq) := below_dn hb.out nq
            have hoq : OwnH (wr.drewN nq) w.heap.size _ L := ho.out
            have hbsq := hbq.size
            obtain ⟨wq, hwq⟩ : ∃ wq, wr.drewN nq = wq := ⟨_, rfl⟩
            rw [hwq] at HoA hbq hoq hbsq ⊢
            go_wp2_with (first
              | (at_builtin; refine wpList_append_lies _ rfl _ _ 65 rfl w.heap.size 94 i0 _ 2 16 Tryd.underlying65 hi0 hz0 hz1 hz2 rfl (by decide) _ L.length (hcells L) rfl (HoA.out _) ⟨wq.heap.size, 0, none⟩ 1 1 [.int .i64 (a : Int), .int .i64 (k : Int)] rfl rfl (new_two _ _ _ _) (fun u hu => by simp at hu; rcases hu with rfl | rfl <;> rfl) (by omega) (by unfold maxLen; omega) (by omega) (by simp; omega) _ rfl ?_; intro g4 cap4 w4 ho4 hg4 hat4 hlt4)
              | fail)
            have hb5 := hid (own_keeps hbq hoq hbsq hg4)
            have ho5 := hid (show OwnH w4 w.heap.size (.slice (some ⟨g4, 0, none⟩) (L.length + 1) cap4) (hitsTo ws t a ++ hitsAt ws t (k + 1) a) from by
              rw [Hm2.out]
              unfold OwnH
              rw [← hcells_app, List.length_append]
              exact ho4)
            clear ho4 hg4 hat4 hlt4
            go_roundw
            case rel => exact ⟨k + 1, by omega, by go_num, hb5, ho5⟩
            case measure => simp [intOf]; omega
          · have Hm := hid (hitsAt_miss hh)
            unfold Hit at hh
            rw [Hs.out] at hh
            have hcb := hid (fun w q => begins_tail w q t s a (by omega) (by unfold maxLen; omega) (by unfold maxLen; omega) false ⟨fun e => absurd e (by decide), fun e => absurd e hh⟩)
            clear hcell hs hh hAl
            go_wp2_with fail
            go_quiet ((go_at_call 67; exact hcb.out _ _))
            have hbq := hid (below_dn hb.out nq)
            have hoq := hid (show OwnH (wr.drewN nq) w.heap.size _ (hitsTo ws t a ++ hitsAt ws t (k + 1) a) from by rw [Hm.out]; exact ho.out)
            go_wp2_with fail
            go_roundw
            case rel => exact ⟨k + 1, by omega, by go_num, hbq, hoq⟩
            case measure => simp [intOf]; omega
        · have hke : k = ws.length := by omega
          subst hke
          rw [← Hsu.out] at ho
          go_wp2_with fail
          go_roundw
          case rel => exact ⟨a + 1, by omega, by go_num, hb, ho⟩
          case measure => simp [intOf]; omega
    · have hae : a = t.size := by omega
      subst hae
      go_wp2_with fail
      go_ret
      exact ⟨_, rfl, ho.out, hb.out⟩

/-- What the reference's Cut hands back. -/
def CutRefEnd (ws : List ByteArray) (t : ByteArray) (w : World) : Ending → World → Prop := fun e w' =>
  ((∃ l v, CutL ws t 0 l ∧ e = .returned (.tuple #[v, .bool true]) ∧ Own w' w.heap.size v l) ∨ ((∀ l, ¬ CutL ws t 0 l) ∧ e = .returned (.tuple #[.slice none 0 0, .bool false]))) ∧ Below w.heap.size w w'

set_option maxRecDepth 100000 in
set_option maxHeartbeats 4000000 in
theorem cutRef_any (w : World) (A : Option Addr) (c : Nat) (ws : List ByteArray) (h : Sl w w.heap.size A (ws.map Value.string)) (hW : WAll ws) (t : ByteArray) (ht : t.size ≤ 24) (hc : ws.length ≤ c) :
    Calls Tryd.prog 61 #[.slice A ws.length c, .string t] w (CutRefEnd ws t w) := by
  have HL := hid (fun w1 (hb : Below w.heap.size w w1) s (hs : s.size ≤ 24) r hr => longestRef_any w1 A c ws w1.heap.size ((h.below hb).mono hb.size) hW s hs r hr)
  have Hh := hid h
  have HW := hid hW
  have HD := hid (wall_dist hW)
  have hl6 := hW.1
  clear h hW
  go_enter Tryd.func61, Tryd.ntmps61
  go_wp2_with fail
  go_loopw [1, 6] (fun s v wr => ∃ (k : Nat) (s0 : ByteArray) (acc : List Int), s = .string s0 ∧ Hid (s0 = sfx t k) ∧ k ≤ t.size ∧ acc.length ≤ k ∧ s0.size = t.size - k ∧ Hid (CutSt ws t k acc) ∧ Hid (Below w.heap.size w wr) ∧ Hid (Own wr w.heap.size v acc)) (fun s _ _ => match s with | .string s0 => s0.size | _ => 0)
  case atStart => exact ⟨0, t, [], rfl, hid (sfx_zero t).symm, by omega, by simp, by omega, hid cutst_start, hid (Below.refl _ _), hid (Own.nil _ _)⟩
  case round =>
    obtain ⟨k, s, acc, rfl, hs, hk, hacc, hsz, hC, hb, ho⟩ := hrel
    by_cases hlt : k < t.size
    · have he : (0 : Int) < s.size := by omega
      obtain ⟨r, hr⟩ := wlongest_exists (ws := ws) (t := s)
      have hcall := hid (HL.out wr hb.out s (by omega) r hr)
      rcases hr with ⟨rfl, hno⟩ | ⟨m, hm, rfl, hbm, hmax⟩
      · have Hf := hid (cutst_fail HD.out hC.out hlt (hs.out ▸ .inl ⟨rfl, hno⟩))
        clear hno
        go_wp2_with fail
        refine hcall.out.mono ?_
        rintro e w3 ⟨rfl, u, rfl⟩
        go_wp2_with fail
        go_ret2
        exact ⟨.inr ⟨Hf.out, rfl⟩, below_dn hb.out u⟩
      · have Hn := hid (cutst_step HD.out hC.out hlt hm (hs.out ▸ .inr ⟨m, hm, rfl, hbm, hmax⟩))
        have hpos := (HW.out.2 m hm).1
        have hble := hbm.1
        have hwm := wat_get hm
        obtain ⟨s0, hs0⟩ : ∃ s0, wat ws m = s0 := ⟨_, rfl⟩
        rw [hs0] at hpos hble hwm Hn
        have hm' : (m : Int) < ws.length := by omega
        have hmc : (m : Int) < c := by omega
        have hn1 : decide ((m : Int) < 0) = false := by simp
        obtain ⟨g, o, hA, hg, hcell⟩ := Hh.out (by intro e; simp at e; simp [e] at hm)
        have qW0 := hcell m _ hwm
        subst hA
        clear hmax hbm hwm hs0 hcell
        have Hsx := hid (show s.extract s0.size s.size = sfx t (k + s0.size) by
          rw [hs.out]; exact sfx_sfx t k s0.size (by omega))
        go_wp2_with fail
        refine hcall.out.mono ?_
        rintro e w3 ⟨rfl, u, rfl⟩
        have hB : Below w.heap.size w (wr.drewN u) := below_dn hb.out u
        have ho3 := ho.out.drewN u
        have hBs := hB.size
        obtain ⟨wq, hwq⟩ : ∃ wq, wr.drewN u = wq := ⟨_, rfl⟩
        rw [hwq] at hB ho3 hBs ⊢
        go_wp2_with (first
          | (at_builtin; refine wp_append_int_at _ rfl _ _ rfl w.heap.size _ acc rfl (ho3.alloc _) _ _ (m : Int) rfl (new_one0 _ _ _) (by omega) (by simp; omega) ?_; intro v5 w5 ho5 hg5 hat5; have hB5 := own_keeps hB ho3 hBs hg5; have q5 := (hB5.cell (p := ⟨g, o + m, none⟩) hg).trans qW0)
          | fail)
        go_roundw
        case rel => exact ⟨k + s0.size, _, acc ++ [(m : Int)], rfl, (by rw [← hsz]; exact Hsx), by omega, by simp; omega, by simp; omega, Hn, hid hB5, hid ho5⟩
        case measure => simp; omega
    · have hke : k = t.size := by omega
      subst hke
      have hse : s = ⟨#[]⟩ := ext_bt (by rw [hsz]; simp; rfl) fun j hj => by omega
      have Hd := hid (cutst_done hC.out)
      subst hse
      go_wp2_with fail
      go_ret2
      exact ⟨.inl ⟨acc, _, Hd.out, rfl, ho.out⟩, hb.out⟩
end Go.Proofs.YtknecfgacnknlaaDoor

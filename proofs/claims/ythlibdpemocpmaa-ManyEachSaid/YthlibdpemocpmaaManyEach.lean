/- letterbecklaw1.ManyEach returns true at all words, texts and numbers: the walk. -/
import Derived.Test.YthlibdpemocpmaaManyFewer
import Derived.Test.YthlibdpemocpmaaFind
import Derived.Test.YthlibdpemocpmaaIn
namespace Go.Proofs.Ythlibdpemocpmaa
set_option linter.unusedVariables false
set_option linter.unusedSimpArgs false
open Go.RowKit

/-- The places of word k among the hits are where it stands. -/
theorem hits_each {ws : List ByteArray} {t : ByteArray} (hW : WAll ws) {k : Nat} (hk : k < ws.length) : ((hitsL ws t).filter fun x => x.2 == (k : Int)).map Prod.fst = posI (bt (wat ws k)) (wat ws k).size (bt t) t.size := by
  have hp := hit_pos hW hk
  refine strict_unique (R := fun a b : Int => a < b) (fun x => by omega) (fun x y h h' => by omega) ?_ ?_ fun y => ?_
  · rw [List.pairwise_map]
    refine List.Pairwise.imp_of_mem (fun {x y} hx hy h => ?_) ((hits_pair (ws := ws) (s := t) hW).filter fun x => x.2 == (k : Int))
    have h1 : x.2 = k := by simpa using (List.mem_filter.1 hx).2
    have h2 : y.2 = k := by simpa using (List.mem_filter.1 hy).2
    unfold LtH at h
    omega
  · unfold posI
    rw [List.pairwise_map]
    exact (pos_pair _ _ _ _).imp fun {x y} h => by omega
  · unfold posI
    rw [List.mem_map, List.mem_map]
    constructor
    · rintro ⟨⟨y', x⟩, h1, rfl⟩
      rw [List.mem_filter, hits_mem hW] at h1
      obtain ⟨⟨a, m, h2, h3, rfl, rfl, h4⟩, h5⟩ := h1
      have h5 : (m : Int) = k := by simpa using h5
      have : m = k := by omega
      subst this
      exact ⟨a, (mem_pos hp).2 h4, rfl⟩
    · rintro ⟨p, h1, rfl⟩
      have h2 := (mem_pos hp).1 h1
      refine ⟨((p : Int), (k : Int)), ?_, rfl⟩
      rw [List.mem_filter, hits_mem hW]
      exact ⟨⟨p, k, by have := h2.1; omega, hk, rfl, rfl, h2⟩, by simp⟩

set_option maxRecDepth 100000 in
set_option maxHeartbeats 4000000 in
theorem walk_manyEach (A : Option Addr) (c : Nat) (ws : List ByteArray) (a1 : ByteArray) (w1 : a1.size ≤ maxLen) (a2 : Int) (w2 : (Lit.int .i64 a2).wf = true) (W : World) (h : Sl W W.heap.size A (ws.map Value.string)) (hc : ws.length ≤ c) (hz : ∀ k, k < ws.length → (wat ws k).size ≤ maxLen) :
    Calls Try.prog 8 #[.slice A ws.length c, .string a1, .int .i64 a2] W fun e w' => e = .returned (.bool true) ∧ Below W.heap.size W w' := by
  have HF := hid (fun w => manyFact_true w)
  rcases words_or ws with hW | ⟨x, hx, hW⟩
  · by_cases ht : a1.size ≤ 24
    · have HA := hid (fun w (hb : Below W.heap.size W w) => manyAll_ok w A c ws ((h.below hb).mono hb.size) hc hW a1 ht)
      have hl6 := hW.1
      by_cases hin : 0 ≤ a2 ∧ a2 ≤ (ws.length : Int) - 1
      · obtain ⟨k0, rfl⟩ : ∃ k0 : Nat, a2 = k0 := ⟨a2.toNat, by omega⟩
        have hk0 : k0 < ws.length := by omega
        have hin2 := hid (fun w => in_true w (k0 : Int) 0 ((ws.length : Int) - 1) hin.1 hin.2)
        have HEq := hid (hits_each (t := a1) hW hk0)
        have hLl := hits_len (t := a1) hW
        have hsz := wall_size hW k0 hk0
        have hsp := hit_pos hW hk0
        obtain ⟨g, o, hA, hg, hcell⟩ := h (by intro e; simp at e; simp [e] at hk0)
        have qW := hcell k0 _ (wat_get hk0)
        obtain ⟨s, hs⟩ : ∃ s, wat ws k0 = s := ⟨_, rfl⟩
        rw [hs] at qW hsz hsp HEq
        have HFi := hid (fun w => findAll_ok w a1 s ht (by omega) hsp)
        subst hA
        obtain ⟨L, hL⟩ : ∃ L, hitsL ws a1 = L := ⟨_, rfl⟩
        rw [hL] at HA hLl HEq
        obtain ⟨P, hP⟩ : ∃ P, posI (bt s) s.size (bt a1) a1.size = P := ⟨_, rfl⟩
        rw [hP] at HFi HEq
        have hkl0 : (k0 : Int) < ws.length := by omega
        have hkc0 : (k0 : Int) < c := by omega
        have HhW := hid qW
        clear hW hz h hL hs hP hcell hin w2 qW
        go_enter Try.func8, Try.ntmps8
        go_wp2_with fail
        refine (HF.out _).mono ?_
        rintro e w2 ⟨rfl, hb1⟩
        go_wp2_with fail
        refine (HA.out _ hb1).mono ?_
        rintro e w3 ⟨v, rfl, hl, hb2⟩
        have hB2 := hid (bch hb1 hb2)
        clear hb1 HA HF
        obtain ⟨A1, c1, rfl, hs1⟩ := hl.slh
        have HS1 := hid hs1
        clear hl hb2 hs1
        go_wp2_with fail
        refine (hin2.out _).mono ?_
        rintro e w4 ⟨rfl, rfl⟩
        go_wp2_with fail
        go_loopw [10, 11] (fun v i wr => ∃ k : Nat, k ≤ L.length ∧ i = .int .i64 k ∧ Hid (Below w3.heap.size w3 wr) ∧ Hid (Own wr w3.heap.size v (((L.take k).filter fun x => x.2 == (k0 : Int)).map Prod.fst))) (fun _ i _ => L.length - (intOf i).toNat)
        case atStart => exact ⟨0, by omega, rfl, hid (Below.refl _ _), hid (Own.nil _ _)⟩
        case round =>
          obtain ⟨k, hk, rfl, hb, ho⟩ := hrel
          by_cases hkl : k < L.length
          · have hkl' : (k : Int) < L.length := by omega
            obtain ⟨b, hA1, hbl, hcl⟩ := (HS1.out.below hb.out) (by intro e; simp [e] at hkl)
            obtain ⟨x, hx⟩ : ∃ x, L[k]? = some x := ⟨_, List.getElem?_eq_getElem hkl⟩
            obtain ⟨q0, q1⟩ := hcl k x hx
            have hll : (((L.take k).filter fun x => x.2 == (k0 : Int)).map Prod.fst).length ≤ 1000 := by
              rw [List.length_map]
              refine Nat.le_trans (List.length_filter_le _ _) ?_
              rw [List.length_take]; omega
            subst hA1
            have hbs := hb.out.size
            by_cases hxn : x.2 = k0
            · have Hm := hid (show ((L.take (k + 1)).filter fun x => x.2 == (k0 : Int)).map Prod.fst = ((L.take k).filter fun x => x.2 == (k0 : Int)).map Prod.fst ++ [x.1] by
                rw [filt_hit (p := fun x : Int × Int => x.2 == (k0 : Int)) hx (by simp [hxn]), List.map_append]; rfl)
              obtain ⟨M, hM⟩ : ∃ M, ((L.take k).filter fun x => x.2 == (k0 : Int)).map Prod.fst = M := ⟨_, rfl⟩
              rw [hM] at hll Hm ho
              obtain ⟨x1, x2⟩ := x
              simp only at q0 q1 hxn
              subst hxn
              clear hcl hx hM
              go_wp2_with (first
                | (at_builtin; refine wp_append_int_at _ rfl _ _ rfl w3.heap.size _ M rfl (ho.out.alloc _) _ _ x1 rfl (new_one0 _ _ _) (by omega) (by simp; omega) ?_; intro v5 w5 ho5 hg5 hat5)
                | fail)
              have hb5 := hid (own_keeps hb.out ho.out hbs hg5)
              rw [← Hm.out] at ho5
              clear hg5 hat5
              go_roundw
              case rel => exact ⟨k + 1, by omega, by go_num, hb5, hid ho5⟩
              case measure => simp [intOf]; omega
            · have Hm := hid (show ((L.take (k + 1)).filter fun x => x.2 == (k0 : Int)).map Prod.fst = ((L.take k).filter fun x => x.2 == (k0 : Int)).map Prod.fst by
                rw [filt_miss (p := fun x : Int × Int => x.2 == (k0 : Int)) hx (by simp [hxn])])
              have hd : (x.2 == (k0 : Int)) = false := by simp [hxn]
              have ho2 := hid (show Own wr w3.heap.size _ (((L.take (k + 1)).filter fun x => x.2 == (k0 : Int)).map Prod.fst) from by rw [Hm.out]; exact ho.out)
              clear hcl hx hxn ho
              go_wp2_with fail
              go_roundw
              case rel => exact ⟨k + 1, by omega, by go_num, hb, ho2⟩
              case measure => simp [intOf]; omega
          · have hke : k = L.length := by omega
            subst hke
            rw [List.take_length, HEq.out] at ho
            have HB := bch hB2.out hb.out
            have qk := (HB.cell (p := ⟨g, o + k0, none⟩) hg).trans HhW.out
            have hPl : P.length ≤ 1000 := by
              rw [← HEq.out, List.length_map]
              exact Nat.le_trans (List.length_filter_le _ _) (by omega)
            obtain ⟨A5, c5, rfl⟩ := ho.out.shape
            clear hb
            go_wp2_with fail
            refine (HFi.out _).mono ?_
            rintro e w6 hR
            obtain ⟨A6, c6, rfl, ho6, hb6⟩ := hR
            have hE := hid (ints_eq w6 A6 A5 c6 c5 P.length P.length P P w6.heap.size (ho6.slB _ (Nat.le_refl _)) ((ho.out.below hb6).slB _ (Nat.le_refl _)) rfl rfl (by omega) (by omega) true (by simp))
            have HB6 := hid (bch HB hb6)
            clear ho6 hb6 HB ho
            go_wp2_with fail
            refine hE.out.mono ?_
            rintro e w7 ⟨rfl, hb7⟩
            go_wp2_with fail
            go_ret
            exact ⟨rfl, bch HB6.out hb7⟩
      · have hin2 := hid (fun w => in_false w a2 0 ((ws.length : Int) - 1) hin)
        clear hW hz h hin
        go_enter Try.func8, Try.ntmps8
        go_wp2_with fail
        refine (HF.out _).mono ?_
        rintro e w2 ⟨rfl, hb1⟩
        go_wp2_with fail
        refine (HA.out _ hb1).mono ?_
        rintro e w3 ⟨v, rfl, hl, hb2⟩
        have hB2 := hid (bch hb1 hb2)
        obtain ⟨A1, c1, rfl, hs1⟩ := hl.slh
        clear hl hb2 hs1 hb1 HA HF
        go_wp2_with fail
        refine (hin2.out _).mono ?_
        rintro e w4 ⟨rfl, rfl⟩
        go_wp2_with fail
        go_ret
        exact ⟨rfl, hB2.out⟩
    · have HO := hid (fun w (hb : Below W.heap.size W w) => manyAll_long w A c ws ((h.below hb).mono hb.size) hc hW a1 (by omega) w1)
      clear h hz hW
      go_enter Try.func8, Try.ntmps8
      go_wp2_with fail
      refine (HF.out _).mono ?_
      rintro e w2 ⟨rfl, hb1⟩
      go_wp2_with fail
      refine (HO.out _ hb1).mono ?_
      rintro e w2 ⟨rfl, hb2⟩
      go_wp2_with fail
      go_ret
      exact ⟨rfl, bch hb1 hb2⟩
  · have HO := hid (fun w (hb : Below W.heap.size W w) => manyAll_bad w A c ws ((h.below hb).mono hb.size) hc hz x hW a1)
    clear h hz hW
    go_enter Try.func8, Try.ntmps8
    go_wp2_with fail
    refine (HF.out _).mono ?_
    rintro e w2 ⟨rfl, hb1⟩
    go_wp2_with fail
    refine (HO.out _ hb1).mono ?_
    rintro e w2 ⟨rfl, hb2⟩
    go_wp2_with fail
    go_ret
    exact ⟨rfl, bch hb1 hb2⟩
end Go.Proofs.Ythlibdpemocpmaa

/- letterbecklaw1.ManyFewer returns true at all words and texts: the walk. -/
import Derived.Test.YthlibdpemocpmaaManyFact
namespace Go.Proofs.Ythlibdpemocpmaa
set_option linter.unusedVariables false
set_option linter.unusedSimpArgs false
open Go.RowKit

theorem wat_take {ws : List ByteArray} {n k : Nat} (h : k < n) : wat (ws.take n) k = wat ws k := by
  unfold wat
  rw [List.getD_eq_getElem?_getD, List.getD_eq_getElem?_getD, List.getElem?_take, if_pos h]
theorem wall_take {ws : List ByteArray} (hW : WAll ws) (n : Nat) : WAll (ws.take n) := by
  refine ⟨by rw [List.length_take]; have := hW.1; omega, fun k hk => ?_⟩
  rw [List.length_take] at hk
  obtain ⟨h1, h2, h3⟩ := hW.2 k (by omega)
  refine ⟨by rw [wat_take (by omega)]; exact h1, by rw [wat_take (by omega)]; exact h2, ?_⟩
  rintro ⟨j, hj, he⟩
  rw [wat_take (by omega), wat_take (by omega)] at he
  exact h3 ⟨j, hj, he⟩

theorem hits_fewer {ws : List ByteArray} {t : ByteArray} (hW : WAll ws) {n : Nat} (hn : ws.length = n + 1) : ((hitsL ws t).filter fun x => x.2 != (n : Int)) = hitsL (ws.take n) t := by
  refine strict_unique lth_irrefl (fun x y => lth_asymm) ((hits_pair hW).filter _) (hits_pair (wall_take hW n)) fun x => ?_
  obtain ⟨y, x⟩ := x
  have hl : (ws.take n).length = n := by rw [List.length_take]; omega
  rw [List.mem_filter, hits_mem hW, hits_mem (wall_take hW n), hl]
  constructor
  · rintro ⟨⟨a, m, h1, h2, rfl, rfl, h3⟩, h4⟩
    have h4 : (m : Int) ≠ n := by simpa using h4
    have hm : m < n := by omega
    refine ⟨a, m, h1, hm, rfl, rfl, ?_⟩
    unfold Hit at *
    rw [wat_take hm]; exact h3
  · rintro ⟨a, m, h1, h2, rfl, rfl, h3⟩
    refine ⟨⟨a, m, h1, by omega, rfl, rfl, ?_⟩, by simp; omega⟩
    unfold Hit at *
    rw [wat_take h2] at h3; exact h3
theorem hits_none (t : ByteArray) : hitsL [] t = [] := by
  unfold hitsL hitsTo hitsAt
  rw [List.flatMap_eq_nil_iff]
  intro a _
  rfl
theorem hits_len {ws : List ByteArray} {t : ByteArray} (hW : WAll ws) : (hitsL ws t).length ≤ t.size * 6 := by
  have hl := hW.1
  unfold hitsL
  have : ∀ i, (hitsTo ws t i).length ≤ i * 6 := fun i => by
    induction i with
    | zero => simp [hitsTo]
    | succ i ih =>
      unfold hitsTo at *
      rw [List.range_succ, List.flatMap_append, List.flatMap_singleton, List.length_append]
      have h1 : (hitsAt ws t ws.length i).length ≤ ws.length := by
        unfold hitsAt
        rw [List.length_map]
        exact Nat.le_trans (List.length_filter_le _ _) (by simp)
      omega
  exact this _
theorem filt_hit {α : Type} {p : α → Bool} {L : List α} {k : Nat} {x : α} (hx : L[k]? = some x) (hp : p x = true) : (L.take (k + 1)).filter p = (L.take k).filter p ++ [x] := by
  rw [List.take_add_one, hx, List.filter_append]
  simp [hp]
theorem filt_miss {α : Type} {p : α → Bool} {L : List α} {k : Nat} {x : α} (hx : L[k]? = some x) (hp : p x = false) : (L.take (k + 1)).filter p = (L.take k).filter p := by
  rw [List.take_add_one, hx, List.filter_append]
  simp [hp]
theorem manyAll_n (w : World) (A : Option Addr) (c n : Nat) (ws : List ByteArray) (hn : ws.length = n) (h : Sl w w.heap.size A (ws.map Value.string)) (hc : n ≤ c) (hW : WAll ws) (t : ByteArray) (ht : t.size ≤ 24) :
    Calls Try.prog 21 #[.slice A n c, .string t] w (RetHits w (hitsL ws t)) := by
  subst hn
  exact manyAll_ok w A c ws h hc hW t ht
theorem sl_take {w : World} {B : Nat} {A : Option Addr} {ws : List ByteArray} (h : Sl w B A (ws.map Value.string)) (n : Nat) : Sl w B A ((ws.take n).map Value.string) := fun hn => by
  obtain ⟨g, o, h1, h2, h3⟩ := h (by intro e; simp at e; simp [e] at hn)
  refine ⟨g, o, h1, h2, fun i u hu => h3 i u ?_⟩
  rw [List.map_take, List.getElem?_take] at hu
  split at hu
  · exact hu
  · cases hu

set_option maxRecDepth 100000 in
set_option maxHeartbeats 4000000 in
theorem walk_manyFewer (A : Option Addr) (c : Nat) (ws : List ByteArray) (a1 : ByteArray) (w1 : a1.size ≤ maxLen) (W : World) (h : Sl W W.heap.size A (ws.map Value.string)) (hc : ws.length ≤ c) (hz : ∀ k, k < ws.length → (wat ws k).size ≤ maxLen) :
    Calls Try.prog 7 #[.slice A ws.length c, .string a1] W fun e w' => e = .returned (.bool true) ∧ Below W.heap.size W w' := by
  have HF := hid (fun w => manyFact_true w)
  rcases words_or ws with hW | ⟨x, hx, hW⟩
  · by_cases ht : a1.size ≤ 24
    · have HA := hid (fun w (hb : Below W.heap.size W w) => manyAll_ok w A c ws ((h.below hb).mono hb.size) hc hW a1 ht)
      have hl6 := hW.1
      by_cases hn : ws.length = 0
      · have hws : ws = [] := List.eq_nil_of_length_eq_zero hn
        subst hws
        rw [hits_none] at HA
        clear hW hz h
        go_enter Try.func7, Try.ntmps7
        go_wp2_with fail
        refine (HF.out _).mono ?_
        rintro e w2 ⟨rfl, hb1⟩
        go_wp2_with fail
        refine (HA.out _ hb1).mono ?_
        rintro e w2 ⟨v, rfl, hl, hb2⟩
        obtain ⟨A1, c1, rfl, _⟩ := hl.slh
        have hB2 := bch hb1 hb2
        clear hb1 hb2 HA HF hl
        go_wp2_with fail
        go_ret
        exact ⟨rfl, hB2⟩
      · obtain ⟨n, hn1⟩ : ∃ n, ws.length = n + 1 := ⟨ws.length - 1, by omega⟩
        have hlt : (ws.take n).length = n := by rw [List.length_take]; omega
        have HA2 := hid (fun w (hb : Below W.heap.size W w) => manyAll_n w A c n (ws.take n) hlt ((sl_take (h.below hb) n).mono hb.size) (by omega) (wall_take hW n) a1 ht)
        have HFw := hid (hits_fewer (t := a1) hW hn1)
        have hLl := hits_len (t := a1) hW
        have hLl2 := hits_len (t := a1) (wall_take hW n)
        obtain ⟨g, o, hA, hg, _⟩ := h (by intro e; simp at e; simp [e] at hn)
        subst hA
        obtain ⟨L, hL⟩ : ∃ L, hitsL ws a1 = L := ⟨_, rfl⟩
        obtain ⟨L2, hL2⟩ : ∃ L2, hitsL (ws.take n) a1 = L2 := ⟨_, rfl⟩
        rw [hL] at HA hLl HFw
        rw [hL2] at HA2 hLl2 HFw
        rw [hn1] at HA hc ⊢
        obtain ⟨i0, hi0, hz0, hz1, hz2⟩ := info_parts info_hit
        clear hW hz h hL hL2 hn hlt
        go_enter Try.func7, Try.ntmps7
        go_wp2_with fail
        refine (HF.out _).mono ?_
        rintro e w2 ⟨rfl, hb1⟩
        go_wp2_with fail
        refine (HA.out _ hb1).mono ?_
        rintro e w3 ⟨v, rfl, hl, hb2⟩
        have hB2 := bch hb1 hb2
        clear hb1 HA HF
        obtain ⟨A1, c1, rfl, hs1⟩ := hl.slh
        clear hl hb2
        go_wp2_with fail
        refine (HA2.out _ hB2).mono ?_
        rintro e w4 ⟨v2, rfl, hl2, hb4⟩
        have hB4 := hid (bch hB2 hb4)
        obtain ⟨A2, c2, rfl, hs2⟩ := hl2.slh
        have HS1 := hid ((hs1.below hb4).mono hb4.size)
        have HS2 := hid hs2
        clear hl2 hs1 hs2 hb4 hB2 HA2
        go_wp2_with fail
        go_loopw [9, 10] (fun v i wr => ∃ k : Nat, k ≤ L.length ∧ i = .int .i64 k ∧ Hid (Below w4.heap.size w4 wr) ∧ Hid (OwnH wr w4.heap.size v ((L.take k).filter fun x => x.2 != (n : Int)))) (fun _ i _ => L.length - (intOf i).toNat)
        case atStart => exact ⟨0, by omega, rfl, hid (Below.refl _ _), hid (OwnH.nil _ _)⟩
        case round =>
          obtain ⟨k, hk, rfl, hb, ho⟩ := hrel
          by_cases hkl : k < L.length
          · have hkl' : (k : Int) < L.length := by omega
            obtain ⟨b, hA1, hbl, hcl⟩ := (HS1.out.below hb.out) (by intro e; simp [e] at hkl)
            obtain ⟨x, hx⟩ : ∃ x, L[k]? = some x := ⟨_, List.getElem?_eq_getElem hkl⟩
            obtain ⟨q0, q1⟩ := hcl k x hx
            have hll : ((L.take k).filter fun x => x.2 != (n : Int)).length ≤ 1000 := by
              refine Nat.le_trans (List.length_filter_le _ _) ?_
              rw [List.length_take]; omega
            subst hA1
            have hbs := hb.out.size
            by_cases hxn : x.2 = n
            · have Hm := hid (filt_miss (p := fun x : Int × Int => x.2 != (n : Int)) hx (by simp [hxn]))
              have hd : (x.2 != (n : Int)) = false := by simp [hxn]
              have ho2 := hid (show OwnH wr w4.heap.size _ ((L.take (k + 1)).filter fun x => x.2 != (n : Int)) from by rw [Hm.out]; exact ho.out)
              clear hcl hx hxn ho
              go_wp2_with fail
              go_roundw
              case rel => exact ⟨k + 1, by omega, by go_num, hb, ho2⟩
              case measure => simp [intOf]; omega
            · have Hm := hid (filt_hit (p := fun x : Int × Int => x.2 != (n : Int)) hx (by simp [hxn]))
              have hd : (x.2 != (n : Int)) = true := by simp [hxn]
              have HoA := hid (fun o => (ho.out.below ((Below.refl _ _).alloc (Nat.le_refl _) o)))
              obtain ⟨M, hM⟩ : ∃ M, ((L.take k).filter fun x => x.2 != (n : Int)) = M := ⟨_, rfl⟩
              rw [hM] at HoA hll Hm ho
              obtain ⟨x1, x2⟩ := x
              simp only at q0 q1 hd
              clear hcl hx hxn hM
              go_wp2_with (first
                | (at_builtin; refine wpList_append_lies _ rfl _ _ 39 rfl w4.heap.size 43 i0 _ 2 16 Try.underlying39 hi0 hz0 hz1 hz2 rfl (by decide) _ M.length (hcells M) rfl (HoA.out _) ⟨wr.heap.size, 0, none⟩ 1 1 [.int .i64 x1, .int .i64 x2] rfl rfl (new_two _ _ _ _) (fun u hu => by simp at hu; rcases hu with rfl | rfl <;> rfl) (by omega) (by unfold maxLen; omega) (by omega) (by simp; omega) _ rfl ?_; intro g4 cap4 w5 ho4 hg4 hat4 hlt4)
                | fail)
              have hb5 := hid (own_keeps hb.out ho.out hbs hg4)
              have ho5 := hid (show OwnH w5 w4.heap.size (.slice (some ⟨g4, 0, none⟩) (M.length + 1) cap4) ((L.take (k + 1)).filter fun x => x.2 != (n : Int)) from by
                rw [Hm.out]
                unfold OwnH
                rw [← hcells_app, List.length_append]
                exact ho4)
              clear ho4 hg4 hat4 hlt4
              go_roundw
              case rel => exact ⟨k + 1, by omega, by go_num, hb5, ho5⟩
              case measure => simp [intOf]; omega
          · have hke : k = L.length := by omega
            subst hke
            rw [List.take_length, HFw.out] at ho
            obtain ⟨A5, c5, rfl, hs5⟩ := ho.out.slh
            have hs2 := (HS2.out.below hb.out).mono hb.out.size
            have hE := hid (hits_eq wr A5 A2 c5 c2 L2.length L2.length L2 L2 wr.heap.size hs5 hs2 rfl rfl (by omega) (by omega) true (by simp))
            have HB := hid (bch hB4.out hb.out)
            clear hs5 hs2 ho hb
            go_wp2_with fail
            refine hE.out.mono ?_
            rintro e w6 ⟨rfl, m, rfl⟩
            go_wp2_with fail
            go_ret
            exact ⟨rfl, below_dn HB.out m⟩
    · have HO := hid (fun w (hb : Below W.heap.size W w) => manyAll_long w A c ws ((h.below hb).mono hb.size) hc hW a1 (by omega) w1)
      clear h hz hW
      go_enter Try.func7, Try.ntmps7
      go_wp2_with fail
      refine (HF.out _).mono ?_
      rintro e w2 ⟨rfl, hb1⟩
      go_wp2_with fail
      refine (HO.out _ hb1).mono ?_
      rintro e w2 ⟨rfl, hb2⟩
      go_wp2_with fail
      go_ret
      exact ⟨rfl, bch hb1 hb2⟩
  · have HO := hid (fun w (hb : Below W.heap.size W w) => manyAll_bad w A c ws ((h.below hb).mono hb.size) hc hz x hW a1)
    clear h hz hW
    go_enter Try.func7, Try.ntmps7
    go_wp2_with fail
    refine (HF.out _).mono ?_
    rintro e w2 ⟨rfl, hb1⟩
    go_wp2_with fail
    refine (HO.out _ hb1).mono ?_
    rintro e w2 ⟨rfl, hb2⟩
    go_wp2_with fail
    go_ret
    exact ⟨rfl, bch hb1 hb2⟩
end Go.Proofs.Ythlibdpemocpmaa

/- letterbecktop.TopFinds returns true at all texts and words: the walk. -/
import Derived.Test.YthlibdpemocpmaaSuffix
import Derived.Test.YthlibdpemocpmaaManyAll
import Derived.Test.YthlibdpemocpmaaFind
import Derived.Test.YthlibdpemocpmaaSkipFirst
import Derived.Test.YthlibdpemocpmaaBegins
import Derived.Test.YthlibdpemocpmaaHitsEq
import Derived.Test.YthlibdpemocpmaaTopFPlain
namespace Go.Proofs.Ythlibdpemocpmaa
set_option linter.unusedVariables false
set_option linter.unusedSimpArgs false
open Go.RowKit

/-- The error of find.Check, if there is one. -/
theorem find_cases (t s : ByteArray) (ht : t.size ≤ maxLen) (hs : s.size ≤ maxLen) : (t.size ≤ 24 ∧ s.size ≤ 24 ∧ 0 < s.size) ∨ ∃ x : Int, Hid (∀ w, Calls Try.prog 40 #[.string t, .string s] w fun e w' => e = .returned (errv x) ∧ Below w.heap.size w w') := by
  by_cases h1 : 24 < t.size ∨ 24 < s.size
  · exact .inr ⟨4, fun w => fcheck_bad w t s h1 ht hs⟩
  · by_cases h2 : s.size = 0
    · exact .inr ⟨5, fun w => fcheck_none w t s (by omega) h2⟩
    · exact .inl (by omega)

theorem topIn_true (w : World) (n low high : Int) (h1 : low ≤ n) (h2 : n ≤ high) :
    Calls Try.prog 27 #[.int .i64 n, .int .i64 low, .int .i64 high] w fun e w' => e = .returned (.bool true) ∧ w = w' := by
  go_enter Try.func27, Try.ntmps27
  go_wp2
  go_ret
  exact ⟨rfl, rfl⟩

theorem skipped_ok (w : World) (t s : ByteArray) (ht : t.size ≤ 24) (hs : s.size ≤ 24) (hpos : 0 < s.size) (p : Int) (hr : Hid ((firstOf (bt s) s.size (bt t) t.size).1 = p)) :
    Calls Try.prog 25 #[.string t, .string s] w fun e w' => e = .returned (.tuple #[.int .i64 p, .bool true]) ∧ Below w.heap.size w w' := by
  have h1 := hid (fun w => skipFirst_ok w t s ht hs hpos p (firstOf (bt s) s.size (bt t) t.size).2 (hid (by rw [← hr.out])))
  obtain ⟨q, hq⟩ : ∃ q, (firstOf (bt s) s.size (bt t) t.size).2 = q := ⟨_, rfl⟩
  rw [hq] at h1
  clear hq
  go_enter Try.func25, Try.ntmps25
  go_wp2_with fail
  refine (h1.out _).mono ?_
  rintro e w1 ⟨rfl, hb⟩
  go_wp2_with fail
  go_quiet (fail)
  go_wp2_with fail
  go_ret2
  exact ⟨rfl, below_dn hb _⟩

theorem wall_one {s : ByteArray} (h1 : 0 < s.size) (h2 : s.size ≤ 8) : WAll [s] := by
  refine ⟨by simp, fun k hk => ?_⟩
  obtain rfl : k = 0 := by simpa using hk
  exact ⟨h1, h2, fun ⟨j, hj, _⟩ => absurd hj (Nat.not_lt_zero _)⟩

theorem sl_one (w : World) (a : ByteArray) : Sl (w.alloc (.cells #[.string a] 9)) (w.alloc (.cells #[.string a] 9)).heap.size (some ⟨w.heap.size, 0, none⟩) ([a].map Value.string) := fun _ =>
  ⟨w.heap.size, 0, rfl, by simp, fun i u hu => by
    rw [Nat.zero_add, cell_of_row _ w.heap.size i #[.string a] 9 (0, 0) (heap_alloc_new w _)]
    simpa using hu⟩

theorem perm_at {l : List Int} {n i : Nat} {x : Int} (h : l.Perm ((List.range n).map fun i : Nat => (i : Int))) (hi : l[i]? = some x) : ∃ p : Nat, x = (p : Int) ∧ p < n := by
  have h1 := h.mem_iff.1 (List.mem_of_getElem? hi)
  obtain ⟨p, h2, rfl⟩ := List.mem_map.1 h1
  exact ⟨p, rfl, List.mem_range.1 h2⟩
theorem take_yes {l : List Int} {k m : Nat} {x : Int} {p : Int → Bool} (hx : l[k]? = some x) (hp : p x = true) (hm : (l.take k).countP p = m) : (l.take (k + 1)).countP p = m + 1 := by
  rw [List.take_add_one, hx, List.countP_append, hm]
  simp [hp]
theorem take_no {l : List Int} {k m : Nat} {x : Int} {p : Int → Bool} (hx : l[k]? = some x) (hp : ¬ p x = true) (hm : (l.take k).countP p = m) : (l.take (k + 1)).countP p = m := by
  rw [List.take_add_one, hx, List.countP_append, hm]
  simp [hp]

theorem range_yes {k m : Nat} {p : Nat → Bool} (hp : p k = true) (hm : (List.range k).countP p = m) : (List.range (k + 1)).countP p = m + 1 := by
  rw [List.range_succ, List.countP_append, hm]
  simp [hp]
theorem range_no {k m : Nat} {p : Nat → Bool} (hp : ¬ p k = true) (hm : (List.range k).countP p = m) : (List.range (k + 1)).countP p = m := by
  rw [List.range_succ, List.countP_append, hm]
  simp [hp]

set_option maxRecDepth 100000 in
set_option maxHeartbeats 4000000 in
theorem walk_topFinds (a0 : ByteArray) (w0 : a0.size ≤ maxLen) (a1 : ByteArray) (w1 : a1.size ≤ maxLen) (W : World) :
    Calls Try.prog 9 #[.string a0, .string a1] W fun e w' => e = .returned (.bool true) ∧ Below W.heap.size W w' := by
  have HLit := hid (fun w => skipped_ok w ⟨#[120, 97, 98]⟩ ⟨#[97, 98]⟩ (by decide) (by decide) (by decide) 1 (hid (by decide)))
  rcases find_cases a0 a1 w0 w1 with ⟨ht, hs, hpos⟩ | ⟨x, hx⟩
  · have HFA := hid (fun w => findAll_ok w a0 a1 ht hs hpos)
    by_cases h8 : a1.size ≤ 8
    · have h8' : ¬ (8 : Int) < a1.size := by omega
      have HSk := hid (fun w => skipped_ok w a0 a1 ht hs hpos _ (hid rfl))
      have HMa := hid (fun w => manyAll_ok (w.alloc (.cells #[.string a1] 9)) (some ⟨w.heap.size, 0, none⟩) 1 [a1] (sl_one w a1) (Nat.le_refl _) (wall_one hpos h8) a0 ht)
      rw [show [a1].length = 1 from rfl] at HMa
      have HSu := hid (fun w => sufOrder_ok w a0 ht)
      have HFi := hid (first_head (f := bt a1) (t := bt a0) (n := a1.size) (m := a0.size) hpos)
      have HFar := hid (far_all (s := a1) (t := a0) hpos)
      obtain ⟨F, hF⟩ : ∃ F, (firstOf (bt a1) a1.size (bt a0) a0.size).1 = F := ⟨_, rfl⟩
      rw [hF] at HSk HFi
      have hPl := pos_len (bt a1) a1.size (bt a0) a0.size
      have hPL := posI_len (bt a1) a1.size (bt a0) a0.size
      rw [hits_single] at HMa
      clear hF
      obtain ⟨L, hL⟩ : ∃ L, posI (bt a1) a1.size (bt a0) a0.size = L := ⟨_, rfl⟩
      rw [hL] at HFA HMa HFi hPL
      have HPL := hid hPL
      have hL24 : L.length ≤ 24 := by omega
      clear hL hPL hPl
      rcases HFi.out with ⟨hL0, hF⟩ | ⟨x0, r0, hL0, hF⟩
      · subst hL0
        subst hF
        rw [List.length_nil] at HPL
        clear HFi hL24
        go_enter Try.func9, Try.ntmps9
        go_wp2_with fail
        refine (HFA.out _).mono ?_
        rintro e v1 ⟨A1, c1, rfl, ho1, hb1⟩
        have HS1 := hid ho1.sl
        clear ho1
        simp only [List.length_nil]
        go_wp2_with fail
        refine (HLit.out _).mono ?_
        rintro e v2 ⟨rfl, hb2⟩
        have HB2 := hid (bch hb1 hb2)
        have HS2 := hid ((HS1.out.below hb2).mono hb2.size)
        clear hb1 hb2 HS1
        go_wp2_with fail
        refine (HSk.out _).mono ?_
        rintro e v3 ⟨rfl, hb3⟩
        have HB3 := hid (bch HB2.out hb3)
        have HS3 := hid ((HS2.out.below hb3).mono hb3.size)
        clear hb3 HB2 HS2
        go_wp2_with fail
        refine (HMa.out _).mono ?_
        rintro e v4 ⟨vh, rfl, hl4, hb4⟩
        have hb4' : Below v3.heap.size v3 v4 := ((Below.refl _ v3).alloc (Nat.le_refl _) _).trans (hb4.mono (by simp))
        have HB4 := hid (bch HB3.out hb4')
        have HS4 := hid ((HS3.out.below hb4').mono hb4'.size)
        obtain ⟨A4, c4, e4, hs4⟩ := hl4.slh
        rw [List.length_map] at e4
        subst e4
        have HH4 := hid hs4
        clear hb4 hb4' HB3 HS3 hl4 hs4
        simp only [List.length_nil]
        go_wp2_with fail
        refine (HSu.out _).mono ?_
        rintro e v5 ⟨A5, c5, l, rfl, hs5, hp5, hb5⟩
        have HB5 := hid (bch HB4.out hb5)
        have HS5 := hid ((HS4.out.below hb5).mono hb5.size)
        have HH5 := hid ((HH4.out.below hb5).mono hb5.size)
        have HO5 := hid hs5
        have HA5 := hid (among_all (s := a1) hp5)
        have hll : l.length = a0.size := by have := hp5.length_eq; simpa using this
        have HX5 := hid (fun i x (h : l[i]? = some x) => perm_at hp5 h)
        clear hb5 HB4 HS4 HH4 hs5 hp5
        go_wp2_with fail
        go_loopw [15, 16] (fun am i wr => v5 = wr ∧ ∃ k m : Nat, k ≤ a0.size ∧ i = .int .i64 (k : Int) ∧ am = .int .i64 (m : Int) ∧ m ≤ k ∧ Hid ((l.take k).countP (atB a1 a0) = m)) (fun _ i _ => a0.size - (intOf i).toNat)
        case atStart => exact ⟨rfl, 0, 0, by omega, rfl, rfl, by omega, hid rfl⟩
        case round =>
          obtain ⟨rfl, k, m, hk, rfl, rfl, hmk, hm⟩ := hrel
          by_cases hlt : k < a0.size
          · have hlt' : (k : Int) < a0.size := by omega
            obtain ⟨x, hx⟩ : ∃ x, l[k]? = some x := ⟨_, List.getElem?_eq_getElem (by omega)⟩
            obtain ⟨p, hpx, hpl⟩ := HX5.out k x hx
            obtain ⟨g, o, hA, hg, hc⟩ := HO5.out (ints_ne (by omega))
            have q := hc k _ (ints_get' hx)
            subst hA
            subst hpx
            have hpl' : (p : Int) < a0.size := by omega
            have hpl2 : (p : Int) ≤ (a0.size : Int) - 1 := by omega
            have HIn := hid (fun w => topIn_true w (p : Int) 0 ((a0.size : Int) - 1) (by omega) hpl2)
            have Hx := hid hx
            clear hc hx
            by_cases hat : At (bt a1) a1.size (bt a0) a0.size p
            · have HBg := hid (fun w => begins_at w a0 a1 p (by omega) w0 w1 true ⟨fun _ => hat, fun _ => rfl⟩)
              have hcn := hid (take_yes (p := atB a1 a0) Hx.out (by unfold atB; simpa using hat) hm.out)
              clear hat hpl2
              go_wp2_with (first
                | (go_at_call 27; refine (HIn.out _).mono ?_; rintro e w' ⟨rfl, rfl⟩)
                | (go_at_call 17; refine (HBg.out _).mono ?_; rintro e w' ⟨rfl, rfl⟩)
                | fail)
              go_roundw
              case rel => exact ⟨trivial, k + 1, m + 1, by omega, by go_num, by go_num, by omega, hcn⟩
              case measure => simp [intOf]; omega
            · have HBg := hid (fun w => begins_at w a0 a1 p (by omega) w0 w1 false ⟨fun h => (by cases h), fun h => absurd h hat⟩)
              have hcn := hid (take_no (p := atB a1 a0) Hx.out (by unfold atB; simpa using hat) hm.out)
              clear hat hpl2
              go_wp2_with (first
                | (go_at_call 27; refine (HIn.out _).mono ?_; rintro e w' ⟨rfl, rfl⟩)
                | (go_at_call 17; refine (HBg.out _).mono ?_; rintro e w' ⟨rfl, rfl⟩)
                | fail)
              go_roundw
              case rel => exact ⟨trivial, k + 1, m, by omega, by go_num, rfl, by omega, hcn⟩
              case measure => simp [intOf]; omega
          · have hlt' : ¬ (k : Int) < a0.size := by omega
            have hml : m = 0 := by
              have h := hm.out
              rw [List.take_of_length_le (by omega), HA5.out] at h
              rw [← h]; exact HPL.out.symm
            subst hml
            clear HA5 HX5 HO5 hm hmk hll
            go_wp2_with fail
            go_loopw [17] (fun i wr => i = .int .i64 0 ∧ ∃ m, wr = v5.drewN m) (fun _ _ => 0)
            case atStart => exact ⟨rfl, 0, rfl⟩
            case round =>
              obtain ⟨rfl, m5, rfl⟩ := hrel
              go_wp2_with fail
              have HBm := hid (below_dn HB5.out m5)
              by_cases hz24 : a1.size + a0.size ≤ 24
              · have hzs : (a1 ++ a0).size = a1.size + a0.size := ByteArray.size_append
                have HZo := hid (fun w => zetaOf_ok w (a1 ++ a0) (by omega))
                have HZg := hid (fun i (hi : i < a1.size + a0.size) => zOf_get (bt (a1 ++ a0)) (a1 ++ a0).size i (by omega))
                have hZl : (zOf (bt (a1 ++ a0)) (a1 ++ a0).size).length = a1.size + a0.size := by rw [zOf_len, hzs]
                rw [hzs] at HZg
                obtain ⟨Z, hZ⟩ : ∃ Z, zOf (bt (a1 ++ a0)) (a1 ++ a0).size = Z := ⟨_, rfl⟩
                rw [hzs] at hZ
                rw [hzs, hZ] at HZo hZl
                rw [hZ] at HZg
                clear hZ hzs
                go_wp2_with fail
                refine (HZo.out _).mono ?_
                rintro e v6 ⟨A6, c6, rfl, ho6, hb6⟩
                have HB6 := hid (bch HBm.out hb6)
                have HS6 := hid ho6.sl
                clear ho6 hb6 HZo HBm
                go_wp2_with fail
                go_loopw [19, 20] (fun f i wr => v6 = wr ∧ ∃ k m : Nat, k ≤ a0.size ∧ i = .int .i64 ((a1.size + k : Nat) : Int) ∧ f = .int .i64 (m : Int) ∧ m ≤ k ∧ Hid ((List.range k).countP (farB a1 a0) = m)) (fun _ i _ => a1.size + a0.size - (intOf i).toNat)
                case atStart => exact ⟨rfl, 0, 0, by omega, by rw [Nat.add_zero], rfl, by omega, hid rfl⟩
                case round =>
                  obtain ⟨rfl, k, m, hk, rfl, rfl, hmk, hm⟩ := hrel
                  obtain ⟨i, hi⟩ : ∃ i, a1.size + k = i := ⟨_, rfl⟩
                  have Hi := hid hi
                  rw [hi]
                  by_cases hlt : k < a0.size
                  · have hlt' : (i : Int) < Z.length := by omega
                    have hzi := HZg.out i (by omega)
                    obtain ⟨v, hv⟩ : ∃ v, zf (bt (a1 ++ a0)) (a1.size + a0.size) i = v := ⟨_, rfl⟩
                    rw [hv] at hzi
                    obtain ⟨g, o, hA, hg, hc⟩ := HS6.out (ints_ne (by omega))
                    have q := hc i _ (ints_get' hzi)
                    subst hA
                    have hi2 : a1.size + (k + 1) = i + 1 := by omega
                    have hi3 : i < a1.size + a0.size := by omega
                    clear hc hzi hi
                    by_cases hfar : a1.size ≤ v
                    · have hcn := hid (range_yes (p := farB a1 a0) (by unfold farB; rw [Hi.out, hv]; simpa using hfar) hm.out)
                      have hfar' : (a1.size : Int) ≤ v := by omega
                      clear hv
                      go_wp2_with fail
                      go_roundw
                      case rel => exact ⟨trivial, k + 1, m + 1, by omega, by rw [hi2]; go_num, by go_num, by omega, hcn⟩
                      case measure => simp [intOf]; omega
                    · have hcn := hid (range_no (p := farB a1 a0) (by unfold farB; rw [Hi.out, hv]; simpa using hfar) hm.out)
                      have hfar' : ¬ (a1.size : Int) ≤ v := by omega
                      clear hv
                      go_wp2_with fail
                      go_roundw
                      case rel => exact ⟨trivial, k + 1, m, by omega, by rw [hi2]; go_num, rfl, by omega, hcn⟩
                      case measure => simp [intOf]; omega
                  · have hlt' : ¬ (i : Int) < Z.length := by omega
                    have hke : k = a0.size := by omega
                    subst hke
                    have hml : m = 0 := by
                      have h := hm.out
                      rw [HFar.out] at h
                      rw [← h]; exact HPL.out.symm
                    subst hml
                    go_wp2_with fail
                    go_ret
                    exact ⟨rfl, HB6.out⟩
              · have hzs : (a1 ++ a0).size = a1.size + a0.size := ByteArray.size_append
                have HZo := hid (fun w => zetaOf_bad w (a1 ++ a0) (by omega) (by unfold maxLen; omega))
                have hz24' : (24 : Int) < (a1.size : Int) + a0.size := by omega
                clear hzs
                go_wp2_with fail
                refine (HZo.out _).mono ?_
                rintro e v6 ⟨rfl, hb6⟩
                have HB6 := hid (bch HBm.out hb6)
                go_wp2_with fail
                go_ret
                exact ⟨rfl, HB6.out⟩
      · have h0 : L[0]? = some F := by rw [hL0, hF]; rfl
        have hLp : 0 < L.length := by rw [hL0]; simp
        have hLp' : (0 : Int) < L.length := by omega
        have hLn : ¬ L = [] := by rw [hL0]; simp
        clear hL0 hF HFi
        go_enter Try.func9, Try.ntmps9
        go_wp2_with fail
        refine (HFA.out _).mono ?_
        rintro e v1 ⟨A1, c1, rfl, ho1, hb1⟩
        have HS1 := hid ho1.sl
        clear ho1
        go_wp2_with fail
        refine (HLit.out _).mono ?_
        rintro e v2 ⟨rfl, hb2⟩
        have HB2 := hid (bch hb1 hb2)
        have HS2 := hid ((HS1.out.below hb2).mono hb2.size)
        clear hb1 hb2 HS1
        go_wp2_with fail
        refine (HSk.out _).mono ?_
        rintro e v3 ⟨rfl, hb3⟩
        have HB3 := hid (bch HB2.out hb3)
        have HS3 := hid ((HS2.out.below hb3).mono hb3.size)
        clear hb3 HB2 HS2
        go_wp2_with fail
        refine (HMa.out _).mono ?_
        rintro e v4 ⟨vh, rfl, hl4, hb4⟩
        have hb4' : Below v3.heap.size v3 v4 := ((Below.refl _ v3).alloc (Nat.le_refl _) _).trans (hb4.mono (by simp))
        have HB4 := hid (bch HB3.out hb4')
        have HS4 := hid ((HS3.out.below hb4').mono hb4'.size)
        obtain ⟨A4, c4, e4, hs4⟩ := hl4.slh
        rw [List.length_map] at e4
        subst e4
        have HH4 := hid hs4
        clear hb4 hb4' HB3 HS3 hl4 hs4
        go_wp2_with fail
        refine (HSu.out _).mono ?_
        rintro e v5 ⟨A5, c5, l, rfl, hs5, hp5, hb5⟩
        have HB5 := hid (bch HB4.out hb5)
        have HS5 := hid ((HS4.out.below hb5).mono hb5.size)
        have HH5 := hid ((HH4.out.below hb5).mono hb5.size)
        have HO5 := hid hs5
        have HA5 := hid (among_all (s := a1) hp5)
        have hll : l.length = a0.size := by have := hp5.length_eq; simpa using this
        have HX5 := hid (fun i x (h : l[i]? = some x) => perm_at hp5 h)
        clear hb5 HB4 HS4 HH4 hs5 hp5
        obtain ⟨g1, o1, hA1, hg1, hc1⟩ := HS5.out (ints_ne (by omega))
        have q0 := hc1 0 _ (ints_get' h0)
        rw [Nat.add_zero] at q0
        subst hA1
        clear hc1
        go_wp2_with fail
        go_loopw [15, 16] (fun am i wr => v5 = wr ∧ ∃ k m : Nat, k ≤ a0.size ∧ i = .int .i64 (k : Int) ∧ am = .int .i64 (m : Int) ∧ m ≤ k ∧ Hid ((l.take k).countP (atB a1 a0) = m)) (fun _ i _ => a0.size - (intOf i).toNat)
        case atStart => exact ⟨rfl, 0, 0, by omega, rfl, rfl, by omega, hid rfl⟩
        case round =>
          obtain ⟨rfl, k, m, hk, rfl, rfl, hmk, hm⟩ := hrel
          by_cases hlt : k < a0.size
          · have hlt' : (k : Int) < a0.size := by omega
            obtain ⟨x, hx⟩ : ∃ x, l[k]? = some x := ⟨_, List.getElem?_eq_getElem (by omega)⟩
            obtain ⟨p, hpx, hpl⟩ := HX5.out k x hx
            obtain ⟨g, o, hA, hg, hc⟩ := HO5.out (ints_ne (by omega))
            have q := hc k _ (ints_get' hx)
            subst hA
            subst hpx
            have hpl' : (p : Int) < a0.size := by omega
            have hpl2 : (p : Int) ≤ (a0.size : Int) - 1 := by omega
            have HIn := hid (fun w => topIn_true w (p : Int) 0 ((a0.size : Int) - 1) (by omega) hpl2)
            have Hx := hid hx
            clear hc hx
            by_cases hat : At (bt a1) a1.size (bt a0) a0.size p
            · have HBg := hid (fun w => begins_at w a0 a1 p (by omega) w0 w1 true ⟨fun _ => hat, fun _ => rfl⟩)
              have hcn := hid (take_yes (p := atB a1 a0) Hx.out (by unfold atB; simpa using hat) hm.out)
              clear hat hpl2
              go_wp2_with (first
                | (go_at_call 27; refine (HIn.out _).mono ?_; rintro e w' ⟨rfl, rfl⟩)
                | (go_at_call 17; refine (HBg.out _).mono ?_; rintro e w' ⟨rfl, rfl⟩)
                | fail)
              go_roundw
              case rel => exact ⟨trivial, k + 1, m + 1, by omega, by go_num, by go_num, by omega, hcn⟩
              case measure => simp [intOf]; omega
            · have HBg := hid (fun w => begins_at w a0 a1 p (by omega) w0 w1 false ⟨fun h => (by cases h), fun h => absurd h hat⟩)
              have hcn := hid (take_no (p := atB a1 a0) Hx.out (by unfold atB; simpa using hat) hm.out)
              clear hat hpl2
              go_wp2_with (first
                | (go_at_call 27; refine (HIn.out _).mono ?_; rintro e w' ⟨rfl, rfl⟩)
                | (go_at_call 17; refine (HBg.out _).mono ?_; rintro e w' ⟨rfl, rfl⟩)
                | fail)
              go_roundw
              case rel => exact ⟨trivial, k + 1, m, by omega, by go_num, rfl, by omega, hcn⟩
              case measure => simp [intOf]; omega
          · have hlt' : ¬ (k : Int) < a0.size := by omega
            have hml : m = L.length := by
              have h := hm.out
              rw [List.take_of_length_le (by omega), HA5.out] at h
              rw [← h]; exact HPL.out.symm
            subst hml
            clear HA5 HX5 HO5 hm hmk hll
            go_wp2_with fail
            go_loopw [17] (fun i wr => ∃ j m : Nat, j ≤ L.length ∧ i = .int .i64 (j : Int) ∧ wr = v5.drewN m) (fun i _ => L.length - (intOf i).toNat)
            case atStart => exact ⟨0, 0, by omega, rfl, rfl⟩
            case round =>
              obtain ⟨j, m5, hj, rfl, rfl⟩ := hrel
              by_cases hlj : j < L.length
              · have hlj' : (j : Int) < L.length := by omega
                obtain ⟨x, hx⟩ : ∃ x, L[j]? = some x := ⟨_, List.getElem?_eq_getElem hlj⟩
                obtain ⟨g, o, hA, hg, hc⟩ := HS5.out (ints_ne (by omega))
                cases hA
                have q1 := hc j _ (ints_get' hx)
                obtain ⟨b, hA4, hbl, hcl⟩ := HH5.out (fun e => hLn (List.map_eq_nil_iff.1 e))
                cases hA4
                have hx2 : (L.map fun x => (x, (0 : Int)))[j]? = some (x, 0) := by simp [hx]
                obtain ⟨q2, q3⟩ := hcl j _ hx2
                simp only at q2 q3
                clear hc hcl hx hx2
                go_wp2_with fail
                go_quiet (fail)
                go_wp2_with fail
                go_roundw
                case rel => exact ⟨j + 1, _, by omega, by go_num, rfl⟩
                case measure => simp [intOf]; omega
              · have hlj' : ¬ (j : Int) < L.length := by omega
                go_wp2_with fail
                have HBm := hid (below_dn HB5.out m5)
                by_cases hz24 : a1.size + a0.size ≤ 24
                · have hzs : (a1 ++ a0).size = a1.size + a0.size := ByteArray.size_append
                  have HZo := hid (fun w => zetaOf_ok w (a1 ++ a0) (by omega))
                  have HZg := hid (fun i (hi : i < a1.size + a0.size) => zOf_get (bt (a1 ++ a0)) (a1 ++ a0).size i (by omega))
                  have hZl : (zOf (bt (a1 ++ a0)) (a1 ++ a0).size).length = a1.size + a0.size := by rw [zOf_len, hzs]
                  rw [hzs] at HZg
                  obtain ⟨Z, hZ⟩ : ∃ Z, zOf (bt (a1 ++ a0)) (a1 ++ a0).size = Z := ⟨_, rfl⟩
                  rw [hzs] at hZ
                  rw [hzs, hZ] at HZo hZl
                  rw [hZ] at HZg
                  clear hZ hzs
                  go_wp2_with fail
                  refine (HZo.out _).mono ?_
                  rintro e v6 ⟨A6, c6, rfl, ho6, hb6⟩
                  have HB6 := hid (bch HBm.out hb6)
                  have HS6 := hid ho6.sl
                  clear ho6 hb6 HZo HBm
                  go_wp2_with fail
                  go_loopw [19, 20] (fun f i wr => v6 = wr ∧ ∃ k m : Nat, k ≤ a0.size ∧ i = .int .i64 ((a1.size + k : Nat) : Int) ∧ f = .int .i64 (m : Int) ∧ m ≤ k ∧ Hid ((List.range k).countP (farB a1 a0) = m)) (fun _ i _ => a1.size + a0.size - (intOf i).toNat)
                  case atStart => exact ⟨rfl, 0, 0, by omega, by rw [Nat.add_zero], rfl, by omega, hid rfl⟩
                  case round =>
                    obtain ⟨rfl, k, m, hk, rfl, rfl, hmk, hm⟩ := hrel
                    obtain ⟨i, hi⟩ : ∃ i, a1.size + k = i := ⟨_, rfl⟩
                    have Hi := hid hi
                    rw [hi]
                    by_cases hlt : k < a0.size
                    · have hlt' : (i : Int) < Z.length := by omega
                      have hzi := HZg.out i (by omega)
                      obtain ⟨v, hv⟩ : ∃ v, zf (bt (a1 ++ a0)) (a1.size + a0.size) i = v := ⟨_, rfl⟩
                      rw [hv] at hzi
                      obtain ⟨g, o, hA, hg, hc⟩ := HS6.out (ints_ne (by omega))
                      have q := hc i _ (ints_get' hzi)
                      subst hA
                      have hi2 : a1.size + (k + 1) = i + 1 := by omega
                      have hi3 : i < a1.size + a0.size := by omega
                      clear hc hzi hi
                      by_cases hfar : a1.size ≤ v
                      · have hcn := hid (range_yes (p := farB a1 a0) (by unfold farB; rw [Hi.out, hv]; simpa using hfar) hm.out)
                        have hfar' : (a1.size : Int) ≤ v := by omega
                        clear hv
                        go_wp2_with fail
                        go_roundw
                        case rel => exact ⟨trivial, k + 1, m + 1, by omega, by rw [hi2]; go_num, by go_num, by omega, hcn⟩
                        case measure => simp [intOf]; omega
                      · have hcn := hid (range_no (p := farB a1 a0) (by unfold farB; rw [Hi.out, hv]; simpa using hfar) hm.out)
                        have hfar' : ¬ (a1.size : Int) ≤ v := by omega
                        clear hv
                        go_wp2_with fail
                        go_roundw
                        case rel => exact ⟨trivial, k + 1, m, by omega, by rw [hi2]; go_num, rfl, by omega, hcn⟩
                        case measure => simp [intOf]; omega
                    · have hlt' : ¬ (i : Int) < Z.length := by omega
                      have hke : k = a0.size := by omega
                      subst hke
                      have hml : m = L.length := by
                        have h := hm.out
                        rw [HFar.out] at h
                        rw [← h]; exact HPL.out.symm
                      subst hml
                      go_wp2_with fail
                      go_ret
                      exact ⟨rfl, HB6.out⟩
                · have hzs : (a1 ++ a0).size = a1.size + a0.size := ByteArray.size_append
                  have HZo := hid (fun w => zetaOf_bad w (a1 ++ a0) (by omega) (by unfold maxLen; omega))
                  have hz24' : (24 : Int) < (a1.size : Int) + a0.size := by omega
                  clear hzs
                  go_wp2_with fail
                  refine (HZo.out _).mono ?_
                  rintro e v6 ⟨rfl, hb6⟩
                  have HB6 := hid (bch HBm.out hb6)
                  go_wp2_with fail
                  go_ret
                  exact ⟨rfl, HB6.out⟩
    · have h8' : (8 : Int) < a1.size := by omega
      go_enter Try.func9, Try.ntmps9
      go_wp2_with fail
      refine (HFA.out _).mono ?_
      rintro e v1 ⟨A1, c1, rfl, ho1, hb1⟩
      go_wp2_with fail
      refine (HLit.out _).mono ?_
      rintro e v2 ⟨rfl, hb2⟩
      go_wp2_with fail
      go_ret
      exact ⟨rfl, bch hb1 hb2⟩
  · go_enter Try.func9, Try.ntmps9
    go_wp2_with fail
    refine (findAll_err _ a0 a1 x hx).mono ?_
    rintro e v1 ⟨rfl, hb1⟩
    go_wp2_with fail
    refine (HLit.out _).mono ?_
    rintro e v2 ⟨rfl, hb2⟩
    go_wp2_with fail
    go_ret
    exact ⟨rfl, bch hb1 hb2⟩
end Go.Proofs.Ythlibdpemocpmaa

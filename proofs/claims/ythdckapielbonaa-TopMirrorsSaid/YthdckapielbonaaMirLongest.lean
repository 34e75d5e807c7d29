/- mirror.Longest: the first longest mirror. -/
import Derived.Test.YthdckapielbonaaMirFns
import Derived.Test.YthdckapielbonaaMirLPlain
namespace Go.Proofs.Ythdckapielbonaa
set_option linter.unusedVariables false
set_option linter.unusedSimpArgs false
open Go.RowKit

theorem longest_bad (w : World) (s : ByteArray) (hs : 24 < s.size) (hm : s.size ≤ maxLen) :
    Calls Try.prog 15 #[.string s] w fun e w' => e = .returned (.tuple #[.int .i64 0, .int .i64 0, errv 4]) ∧ Below w.heap.size w w' := by
  go_enter Try.func15, Try.ntmps15
  go_wp2_with (go_at_call 25; refine (long1_bad _ s hs hm _ _ (by simp)).mono ?_; rintro e w' ⟨rfl, rfl⟩)
  go_ret3
  exact ⟨rfl, (Below.refl _ _).alloc (Nat.le_refl _) _⟩

/-- The two rows that grow has left are still there. -/
def LKeep (w : World) (s : ByteArray) (O E : Option Addr) (wr : World) : Prop :=
  Sl wr wr.heap.size O (ints (mAll (bt s) s.size 0)) ∧ Sl wr wr.heap.size E (ints (mAll (bt s) s.size 1)) ∧ Below w.heap.size w wr

theorem lkeep_below {w w1 w2 : World} {s : ByteArray} {O E : Option Addr} (h : LKeep w s O E w1) (hb : Below w1.heap.size w1 w2) : LKeep w s O E w2 :=
  ⟨(h.1.below hb).mono hb.size, (h.2.1.below hb).mono hb.size, bch h.2.2 hb⟩

theorem mst_bd (s : ByteArray) (hs : s.size ≤ 24) (t : Nat) (ht : t ≤ 2 * s.size) : (mSt (bt s) s.size t).1 ≤ 24 ∧ (mSt (bt s) s.size t).2 ≤ 24 := by
  rcases (mSt_inv (bt s) s.size t).1 with ⟨h1, h2⟩ | ⟨t', h0, h1, h2⟩
  · omega
  · have := (cand_pal (bt s) s.size t' (by omega)).1
    omega

/-- What the loops have behind t candidates. -/
def MSt (s : ByteArray) (t a l : Nat) : Prop := t ≤ 2 * s.size ∧ mSt (bt s) s.size t = (a, l)

theorem mst_zero (s : ByteArray) : MSt s 0 0 0 := ⟨by omega, rfl⟩

theorem mst_bd' {s : ByteArray} {t a l : Nat} (hs : s.size ≤ 24) (h : MSt s t a l) : a ≤ 24 ∧ l ≤ 24 := by
  have := mst_bd s hs t h.1
  rw [h.2] at this
  exact this

theorem mst_even {s : ByteArray} {k a l e : Nat} (h : MSt s (2 * k) a l) (hk : k < s.size) (he : mir (bt s) s.size 1 k = e) :
    e ≤ k ∧ ((l < 2 * e ∨ (2 * e = l ∧ k - e < a)) → MSt s (2 * k + 1) (k - e) (2 * e)) ∧ (¬ (l < 2 * e ∨ (2 * e = l ∧ k - e < a)) → MSt s (2 * k + 1) a l) := by
  have hc := cand_pal (bt s) s.size (2 * k) (by omega)
  have hm := mir_mir (bt s) s.size 1 k
  rw [he] at hm
  have e1 : candA (bt s) s.size (2 * k) = k - e := by unfold candA; rw [if_pos (by omega), show 2 * k / 2 = k from by omega, he]
  have e2 : candL (bt s) s.size (2 * k) = 2 * e := by unfold candL; rw [if_pos (by omega), show 2 * k / 2 = k from by omega, he]
  have hle : e ≤ k := by
    by_cases h0 : 0 < e
    · have := mir_bd hm h0; omega
    · omega
  refine ⟨hle, fun hb => ⟨by omega, ?_⟩, fun hb => ⟨by omega, ?_⟩⟩
  · unfold mSt; rw [h.2, mBet, e1, e2]
    rw [if_pos (by simpa using hb)]
  · unfold mSt; rw [h.2, mBet, e1, e2]
    rw [if_neg (by simpa using hb)]

theorem mst_odd {s : ByteArray} {k a l e : Nat} (h : MSt s (2 * k + 1) a l) (hk : k < s.size) (he : mir (bt s) s.size 0 k = e) :
    e ≤ k + 1 ∧ 1 ≤ e ∧ ((l < 2 * e - 1 ∨ (2 * e - 1 = l ∧ k + 1 - e < a)) → MSt s (2 * k + 2) (k + 1 - e) (2 * e - 1)) ∧ (¬ (l < 2 * e - 1 ∨ (2 * e - 1 = l ∧ k + 1 - e < a)) → MSt s (2 * k + 2) a l) := by
  have hm := mir_mir (bt s) s.size 0 k
  have h1 := mir_one (f := bt s) hk
  rw [he] at hm h1
  have e1 : candA (bt s) s.size (2 * k + 1) = k + 1 - e := by unfold candA; rw [if_neg (by omega), show (2 * k + 1) / 2 = k from by omega, he]
  have e2 : candL (bt s) s.size (2 * k + 1) = 2 * e - 1 := by unfold candL; rw [if_neg (by omega), show (2 * k + 1) / 2 = k from by omega, he]
  have hle := mir_bd hm (by omega)
  refine ⟨by omega, h1, fun hb => ⟨by omega, ?_⟩, fun hb => ⟨by omega, ?_⟩⟩
  · show mSt (bt s) s.size (2 * k + 1 + 1) = _
    unfold mSt; rw [h.2, mBet, e1, e2]
    rw [if_pos (by simpa using hb)]
  · show mSt (bt s) s.size (2 * k + 1 + 1) = _
    unfold mSt; rw [h.2, mBet, e1, e2]
    rw [if_neg (by simpa using hb)]

set_option maxRecDepth 100000 in
set_option maxHeartbeats 1000000 in
theorem longest_ok' (w : World) (s : ByteArray) (hs : s.size ≤ 24) (X Y : Nat) (hX : Hid (∀ a l, MSt s (2 * s.size) a l → a = X ∧ l = Y)) :
    Calls Try.prog 15 #[.string s] w fun e w' => e = .returned (.tuple #[.int .i64 X, .int .i64 Y, .nilIface]) ∧ Below w.heap.size w w' := by
  go_enter Try.func15, Try.ntmps15
  go_wp2_with (first
    | (go_at_call 25; refine (long1_ok _ s hs _ _ (by simp)).mono ?_; rintro e w' ⟨rfl, rfl⟩)
    | (go_at_call 26; refine (grow_i _ s _ (by first | exact .inl rfl | exact .inr rfl) hs).mono ?_; rintro e w2 ⟨E, c2, rfl, he, hb2⟩))
  rename_i w1 O c1 ho hb1 K0 hK0
  have hK : Hid (LKeep w s O E w2) := by
    have q1 : Sl w1 w1.heap.size O (ints (mAll (bt s) s.size 0)) := ho.slB _ (Nat.le_refl _)
    have q2 : Sl w2 w2.heap.size E (ints (mAll (bt s) s.size 1)) := he.slB _ (Nat.le_refl _)
    exact ⟨(q1.below hb2).mono hb2.size, q2, bch (bch ((Below.refl _ _).alloc (Nat.le_refl _) _) hb1) hb2⟩
  clear ho he hb1 hb2
  go_loopw [2, 3, 23] (fun a l i wr => ∃ k A L : Nat, k ≤ s.size ∧ A ≤ 24 ∧ L ≤ 24 ∧ i = .int .i64 k ∧ a = .int .i64 A ∧ l = .int .i64 L ∧ Hid (MSt s (2 * k) A L) ∧ Hid (LKeep w s O E wr)) (fun _ _ i _ => s.size - (intOf i).toNat)
  case atStart => exact ⟨0, 0, 0, Nat.zero_le _, by omega, by omega, rfl, rfl, rfl, mst_zero s, hK⟩
  case round =>
    obtain ⟨k, A, L, hk, hA, hL, rfl, rfl, rfl, hM, hZ⟩ := hrel
    by_cases hlt : k < s.size
    · obtain ⟨go, oo, hO, hgo, hco⟩ := hZ.out.1 (ints_ne (by simp; omega))
      obtain ⟨ge, oe, hE, hge, hce⟩ := hZ.out.2.1 (ints_ne (by simp; omega))
      have q1 := hco k _ (ints_get' (mAll_get (bt s) s.size 0 k hlt))
      have q2 := hce k _ (ints_get' (mAll_get (bt s) s.size 1 k hlt))
      have hEv := hid (fun a l h => mst_even (s := s) (k := k) (a := a) (l := l) h hlt rfl)
      have hOd := hid (fun a l h => mst_odd (s := s) (k := k) (a := a) (l := l) h hlt rfl)
      have b1 := (hEv.out _ _ hM.out).1
      have b2 : mir (bt s) s.size 0 k ≤ k + 1 ∧ 1 ≤ mir (bt s) s.size 0 k := by
        have h1 := mir_one (f := bt s) hlt
        have h2 := mir_bd (mir_mir (bt s) s.size 0 k) h1
        omega
      obtain ⟨b2, b3⟩ := b2
      clear hco hce
      have HO := hid hO
      have HE := hid hE
      generalize mir (bt s) s.size 0 k = d at q1 b2 b3 hOd
      generalize mir (bt s) s.size 1 k = e at q2 b1 hEv
      obtain ⟨P, hP, hPn⟩ : ∃ P : Nat, (k : Int) - e = P ∧ Hid (P = k - e) := ⟨k - e, by omega, rfl⟩
      obtain ⟨Q, hQ, hQn⟩ : ∃ Q : Nat, (2 : Int) * e = Q ∧ Hid (Q = 2 * e) := ⟨2 * e, by omega, rfl⟩
      obtain ⟨R, hR, hRn⟩ : ∃ R : Nat, (k : Int) - d + 1 = R ∧ Hid (R = k + 1 - d) := ⟨k + 1 - d, by omega, rfl⟩
      obtain ⟨T, hT, hTn⟩ : ∃ T : Nat, (2 : Int) * d - 1 = T ∧ Hid (T = 2 * d - 1) := ⟨2 * d - 1, by omega, rfl⟩
      subst hO hE
      have i0 : ∀ w : World, (Instr.index 49 (.agg #[.int .i64 P, .int .i64 Q, .int .i64 R, .int .i64 T]) (.int .i64 0)).run Try.prog w = .ok (.agg #[.int .i64 P, .int .i64 Q]) w := fun _ => by kernel_rfl
      have i1 : ∀ w : World, (Instr.index 49 (.agg #[.int .i64 P, .int .i64 Q, .int .i64 R, .int .i64 T]) (.int .i64 1)).run Try.prog w = .ok (.agg #[.int .i64 R, .int .i64 T]) w := fun _ => by kernel_rfl
      go_wp2
      go_quiet (fail)
      go_wp2
      have hZ' : Hid (LKeep w s (some ⟨go, oo, none⟩) (some ⟨ge, oe, none⟩) (wr.drewN nq)) := hid (lkeep_below hZ.out (below_drewN _ _))
      go_loopw [2, 3, 53] (fun a l j wr' => ∃ J A' L' : Nat, J ≤ 2 ∧ A' ≤ 24 ∧ L' ≤ 24 ∧ j = .int .i64 J ∧ a = .int .i64 A' ∧ l = .int .i64 L' ∧ Hid (MSt s (2 * k + J) A' L') ∧ Hid (LKeep w s (some ⟨go, oo, none⟩) (some ⟨ge, oe, none⟩) wr')) (fun _ _ j _ => 2 - (intOf j).toNat)
      case atStart => exact ⟨0, A, L, by omega, hA, hL, rfl, rfl, rfl, hM, hZ'⟩
      case round =>
        clear hM hA hL hZ hZ'
        obtain ⟨J, A', L', hJ, hA, hL, rfl, rfl, rfl, hM, hZ⟩ := hrel
        by_cases h2 : J < 2
        · obtain rfl | rfl : J = 0 ∨ J = 1 := by omega
          · have h6 := hEv.out _ _ hM.out
            have hAl : Hid (LKeep w s (some ⟨go, oo, none⟩) (some ⟨ge, oe, none⟩) (wr.alloc (Obj.cells #[.int .i64 P, .int .i64 Q] 48))) := hid (lkeep_below hZ.out ((Below.refl _ _).alloc (Nat.le_refl _) _))
            have b4 : P ≤ 24 ∧ Q ≤ 24 ∨ ¬ (L' < Q ∨ (Q = L' ∧ P < A')) := by
              rw [hPn.out, hQn.out]
              by_cases hbet : (L' < 2 * e ∨ (2 * e = L' ∧ k - e < A'))
              · exact .inl (mst_bd' hs (h6.2.1 hbet))
              · exact .inr hbet
            have hN1 : Hid ((L' < Q ∨ (Q = L' ∧ P < A')) → MSt s (2 * k + 1) P Q) := by rw [hPn.out, hQn.out]; exact hid h6.2.1
            have hN2 : Hid (¬ (L' < Q ∨ (Q = L' ∧ P < A')) → MSt s (2 * k + 1) A' L') := by rw [hPn.out, hQn.out]; exact hid h6.2.2
            clear h6
            rcases Nat.lt_trichotomy L' Q with hb | hb | hb
            · go_wp2
              go_quiet (fail)
              go_wp2
              go_roundw
              case rel => exact ⟨1, P, Q, by omega, by omega, by omega, by go_num, rfl, rfl, hid (hN1.out (by omega)), hid (lkeep_below hAl.out (below_drewN _ _))⟩
              case measure => simp [intOf]
            · subst hb
              by_cases hb2 : P < A'
              · go_wp2
                go_quiet (fail)
                go_wp2
                go_roundw
                case rel => exact ⟨1, P, L', by omega, by omega, by omega, by go_num, rfl, rfl, hid (hN1.out (.inr ⟨by trivial, hb2⟩)), hid (lkeep_below hAl.out (below_drewN _ _))⟩
                case measure => simp [intOf]
              · have hb3 : decide (P < A') = false := by simp; omega
                go_wp2
                go_roundw
                case rel => exact ⟨1, A', L', by omega, by omega, by omega, by go_num, rfl, rfl, hid (hN2.out (by omega)), hAl⟩
                case measure => simp [intOf]
            · have hb3 : decide (L' < Q) = false := by simp; omega
              have hb4 : ((Q : Int) == L') = false := by rw [beq_eq_false_iff_ne]; omega
              go_wp2
              go_roundw
              case rel => exact ⟨1, A', L', by omega, by omega, by omega, by go_num, rfl, rfl, hid (hN2.out (by omega)), hAl⟩
              case measure => simp [intOf]
          · have h6 := hOd.out _ _ hM.out
            have hAl : Hid (LKeep w s (some ⟨go, oo, none⟩) (some ⟨ge, oe, none⟩) (wr.alloc (Obj.cells #[.int .i64 R, .int .i64 T] 48))) := hid (lkeep_below hZ.out ((Below.refl _ _).alloc (Nat.le_refl _) _))
            have b4 : R ≤ 24 ∧ T ≤ 24 ∨ ¬ (L' < T ∨ (T = L' ∧ R < A')) := by
              rw [hRn.out, hTn.out]
              by_cases hbet : (L' < 2 * d - 1 ∨ (2 * d - 1 = L' ∧ k + 1 - d < A'))
              · exact .inl (mst_bd' hs (h6.2.2.1 hbet))
              · exact .inr hbet
            have hN1 : Hid ((L' < T ∨ (T = L' ∧ R < A')) → MSt s (2 * k + 2) R T) := by rw [hRn.out, hTn.out]; exact hid h6.2.2.1
            have hN2 : Hid (¬ (L' < T ∨ (T = L' ∧ R < A')) → MSt s (2 * k + 2) A' L') := by rw [hRn.out, hTn.out]; exact hid h6.2.2.2
            clear h6
            rcases Nat.lt_trichotomy L' T with hb | hb | hb
            · go_wp2
              go_quiet (fail)
              go_wp2
              go_roundw
              case rel => exact ⟨2, R, T, by omega, by omega, by omega, by go_num, rfl, rfl, hid (hN1.out (by omega)), hid (lkeep_below hAl.out (below_drewN _ _))⟩
              case measure => simp [intOf]
            · subst hb
              by_cases hb2 : R < A'
              · go_wp2
                go_quiet (fail)
                go_wp2
                go_roundw
                case rel => exact ⟨2, R, L', by omega, by omega, by omega, by go_num, rfl, rfl, hid (hN1.out (.inr ⟨by trivial, hb2⟩)), hid (lkeep_below hAl.out (below_drewN _ _))⟩
                case measure => simp [intOf]
              · have hb3 : decide (R < A') = false := by simp; omega
                go_wp2
                go_roundw
                case rel => exact ⟨2, A', L', by omega, by omega, by omega, by go_num, rfl, rfl, hid (hN2.out (by omega)), hAl⟩
                case measure => simp [intOf]
            · have hb3 : decide (L' < T) = false := by simp; omega
              have hb4 : ((T : Int) == L') = false := by rw [beq_eq_false_iff_ne]; omega
              go_wp2
              go_roundw
              case rel => exact ⟨2, A', L', by omega, by omega, by omega, by go_num, rfl, rfl, hid (hN2.out (by omega)), hAl⟩
              case measure => simp [intOf]
        · have h3 : J = 2 := by omega
          subst h3
          go_wp2
          go_roundw
          case rel => exact ⟨k + 1, A', L', by omega, by omega, by omega, by go_num, rfl, rfl, hM, hZ⟩
          case measure => simp [intOf]; omega
    · go_wp2
      go_ret3
      have : k = s.size := by omega
      subst this
      obtain ⟨rfl, rfl⟩ := hX.out _ _ hM.out
      exact ⟨rfl, hZ.out.2.2⟩

theorem longest_ok (w : World) (s : ByteArray) (hs : s.size ≤ 24) :
    Calls Try.prog 15 #[.string s] w fun e w' => e = .returned (.tuple #[.int .i64 (mAt (bt s) s.size), .int .i64 (mLong (bt s) s.size), .nilIface]) ∧ Below w.heap.size w w' :=
  longest_ok' w s hs _ _ (hid fun a l h => by
    unfold mAt mLong
    rw [h.2]
    exact ⟨rfl, rfl⟩)
end Go.Proofs.Ythdckapielbonaa

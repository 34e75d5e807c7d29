/- letterbecklaw1.MirrorFew returns true at every text: the walk. -/
import Derived.Test.YthdckapielbonaaMirFact
import Derived.Test.YthdckapielbonaaIn
import Derived.Test.YthdckapielbonaaAdded
import Derived.Test.YthdckapielbonaaMirFPlain
namespace Go.Proofs.Ythdckapielbonaa
set_option linter.unusedVariables false
set_option linter.unusedSimpArgs false
open Go.RowKit

/-- What the loops keep: the list of mirrors seen, and the two rows. -/
def FKeep (w : World) (s : ByteArray) (O E : Option Addr) (v : Value) (wr : World) : Prop :=
  (∃ L, Pals s L ∧ OwnS wr w.heap.size v L) ∧ Sl wr wr.heap.size O (ints (mAll (bt s) s.size 0)) ∧ Sl wr wr.heap.size E (ints (mAll (bt s) s.size 1)) ∧ Below w.heap.size w wr

/-- added, at a mirror of the text. -/
theorem fkeep_added {w wr : World} {s : ByteArray} {O E : Option Addr} {v : Value} (h : FKeep w s O E v wr) (hs : s.size ≤ 24) (hO : Sl w w.heap.size O (ints (mAll (bt s) s.size 0))) (hE : Sl w w.heap.size E (ints (mAll (bt s) s.size 1))) {x : ByteArray} {b : Nat} (hx : Ends s x b) :
    Calls Try.prog 18 #[v, .string x] wr fun e w' => ∃ v', e = .returned v' ∧ Hid (FKeep w s O E v' w') := by
  obtain ⟨⟨L, hL, ho⟩, h1, h2, hb⟩ := h
  obtain ⟨r, hr, hr2⟩ := pals_add hL hx
  have hlen := pals_len hL
  refine (added_any wr w.heap.size v L x ho (by omega) hb.size r hr).mono ?_
  intro e w' h'
  obtain ⟨v', rfl, ho', hb'⟩ := h'.out
  have hb2 := hb.trans hb'
  exact ⟨v', rfl, ⟨r, hr2, ho'⟩, (hO.below hb2).mono hb2.size, (hE.below hb2).mono hb2.size, hb2⟩

theorem fkeep_dn {w wr : World} {s : ByteArray} {O E : Option Addr} {v : Value} (h : FKeep w s O E v wr) (n : Nat) : FKeep w s O E v (wr.drewN n) := by
  obtain ⟨⟨L, hL, ho⟩, h1, h2, hb⟩ := h
  exact ⟨⟨L, hL, ho.drewN n⟩, h1, h2, below_dn hb n⟩

theorem fkeep_cells {w wr : World} {s : ByteArray} {go oo ge oe : Nat} {v : Value} {k : Nat} (hk : k < s.size) (h : FKeep w s (some ⟨go, oo, none⟩) (some ⟨ge, oe, none⟩) v wr) :
    wr.cell? ⟨go, oo + k, none⟩ = some (.int .i64 (mir (bt s) s.size 0 k)) ∧ wr.cell? ⟨ge, oe + k, none⟩ = some (.int .i64 (mir (bt s) s.size 1 k)) := by
  obtain ⟨_, hO, hE, _⟩ := h
  obtain ⟨g1, o1, e1, _, c1⟩ := hO (ints_ne (by simp; omega))
  obtain ⟨g2, o2, e2, _, c2⟩ := hE (ints_ne (by simp; omega))
  have q1 := c1 k _ (ints_get' (mAll_get (bt s) s.size 0 k hk))
  have q2 := c2 k _ (ints_get' (mAll_get (bt s) s.size 1 k hk))
  injection e1 with e1; injection e1 with e1 e1'; subst e1 e1'
  injection e2 with e2; injection e2 with e2 e2'; subst e2 e2'
  exact ⟨q1, q2⟩

theorem ends_sub {s : ByteArray} {a b : Nat} (h : a < b) (hb : b ≤ s.size) (hp : IsPal (bt s) a (b - a)) : Ends s (s.extract a b) b := ⟨a, h, hb, rfl, hp⟩

set_option maxRecDepth 100000 in
set_option maxHeartbeats 6000000 in
theorem walk_mirrorFew (a0 : ByteArray) (w0 : a0.size ≤ maxLen) (W : World) :
    Calls Try.prog 5 #[.string a0] W fun e w' => e = .returned (.bool true) ∧ Below W.heap.size W w' := by
  by_cases hs : a0.size ≤ 24
  · have hne : ((a0.size : Int) != a0.size) = false := by simp
    go_enter Try.func5, Try.ntmps5
    go_wp2_with fail
    refine (mirrorFact_true _).mono ?_
    rintro e w1 ⟨rfl, hb1⟩
    go_wp2_with fail
    refine (odd_ok _ a0 hs).mono ?_
    rintro e w2 ⟨O, c2, rfl, ho2, hb2⟩
    rw [mAll_len] at ho2 ⊢
    go_wp2_with fail
    refine (even_ok _ a0 hs).mono ?_
    rintro e w3 ⟨E, c3, rfl, ho3, hb3⟩
    rw [mAll_len] at ho3 ⊢
    have hO : Sl w3 w3.heap.size O (ints (mAll (bt a0) a0.size 0)) := (ho2.below hb3).slB _ (Nat.le_refl _)
    have hE : Sl w3 w3.heap.size E (ints (mAll (bt a0) a0.size 1)) := ho3.slB _ (Nat.le_refl _)
    have HB := bch (bch hb1 hb2) hb3
    clear ho2 ho3 hb1 hb2 hb3
    have hAdd := hid (fun (wr : World) v x b (h : FKeep w3 a0 O E v wr) hx => fkeep_added h hs hO hE (x := x) (b := b) hx)
    have hK : Hid (FKeep w3 a0 O E (.slice none 0 0) w3) := ⟨⟨[], pals_nil _, OwnS.nil _ _⟩, hO, hE, Below.refl _ _⟩
    clear hO hE
    go_wp2_with fail
    go_loopw [8, 9] (fun v i wr => ∃ k : Nat, k ≤ a0.size ∧ i = .int .i64 k ∧ Hid (FKeep w3 a0 O E v wr)) (fun _ i _ => a0.size - (intOf i).toNat)
    case atStart => exact ⟨0, Nat.zero_le _, rfl, hK⟩
    case round =>
      obtain ⟨k, hk, rfl, hF⟩ := hrel
      by_cases hlt : k < a0.size
      · obtain ⟨-, hsO, hsE, -⟩ := id hF.out
        obtain ⟨go, oo, hO, hgo, -⟩ := hsO (ints_ne (by simp; omega))
        obtain ⟨ge, oe, hE, hge, -⟩ := hsE (ints_ne (by simp; omega))
        subst hO hE
        have HC := hid (fun v (wr : World) (h : FKeep w3 a0 (some ⟨go, oo, none⟩) (some ⟨ge, oe, none⟩) v wr) => fkeep_cells hlt h)
        have b1 := mir_one (f := bt a0) hlt
        have hm0 := hid (mir_mir (bt a0) a0.size 0 k)
        have hm1 := hid (mir_mir (bt a0) a0.size 1 k)
        have hb0 := mir_bd hm0.out
        have hb1 := mir_bd hm1.out
        generalize mir (bt a0) a0.size 0 k = d at HC b1 hm0 hb0
        generalize mir (bt a0) a0.size 1 k = e at HC hm1 hb1
        clear hsO hsE
        have hd := hb0 (by omega)
        have he : e ≤ k ∧ k + e ≤ a0.size := by
          by_cases h0 : 0 < e
          · have := hb1 h0; omega
          · omega
        obtain ⟨hd1, hd2⟩ := hd
        obtain ⟨he1, he2⟩ := he
        clear hb0 hb1
        have q1 := (HC.out _ _ hF.out).1
        have q2 := (HC.out _ _ hF.out).2
        go_wp2_with fail
        refine (in_true _ _ _ _ (by omega) (by omega)).mono ?_
        rintro e v3 ⟨rfl, rfl⟩
        go_wp2_with fail
        refine (in_true _ _ _ _ (by omega) (by omega)).mono ?_
        rintro e v3 ⟨rfl, rfl⟩
        go_wp2_with fail
        go_loopw [8, 10] (fun v i wr => ∃ j : Nat, 1 ≤ j ∧ j ≤ d + 1 ∧ i = .int .i64 j ∧ Hid (FKeep w3 a0 (some ⟨go, oo, none⟩) (some ⟨ge, oe, none⟩) v wr)) (fun _ i _ => d + 1 - (intOf i).toNat)
        case atStart => exact ⟨1, by omega, by omega, rfl, hF⟩
        case round =>
          clear hF q1 q2
          obtain ⟨j, hj1, hj2, rfl, hF⟩ := hrel
          have q1 := (HC.out _ _ hF.out).1
          by_cases hjd : j ≤ d
          · obtain ⟨P, hP, hPn⟩ : ∃ P : Nat, (k : Int) - j + 1 = P ∧ P = k + 1 - j := ⟨k + 1 - j, by omega, rfl⟩
            obtain ⟨R, hR, hRn⟩ : ∃ R : Nat, (k : Int) + j = R ∧ R = k + j := ⟨k + j, by omega, rfl⟩
            have hPR : P ≤ R := by omega
            have hRs : R ≤ a0.size := by omega
            have hEnd : Hid (Ends a0 (a0.extract P R) R) := by
              have := mir_pal0 (k := j) (fun t ht => hm0.out t (by omega)) (by omega)
              refine ends_sub (by omega) hRs ?_
              rw [hPn, hRn, show k + j - (k + 1 - j) = 2 * j - 1 from by omega]
              exact this.2.2
            clear hPn hRn
            go_wp2_with fail
            refine (hAdd.out _ _ _ _ hF.out hEnd.out).mono ?_
            rintro e w5 ⟨v', rfl, hF'⟩
            go_wp2
            go_roundw
            case rel => exact ⟨j + 1, by omega, by omega, by go_num, hF'⟩
            case measure => simp [intOf] <;> omega
          · have q2 := (HC.out _ _ hF.out).2
            go_wp2
            go_loopw [8, 11] (fun v i wr => ∃ j : Nat, 1 ≤ j ∧ j ≤ e + 1 ∧ i = .int .i64 j ∧ Hid (FKeep w3 a0 (some ⟨go, oo, none⟩) (some ⟨ge, oe, none⟩) v wr)) (fun _ i _ => e + 1 - (intOf i).toNat)
            case atStart => exact ⟨1, by omega, by omega, rfl, hF⟩
            case round =>
              clear hF q1 q2 hj1 hj2 hjd
              obtain ⟨j, hj1, hj2, rfl, hF⟩ := hrel
              have q1 := (HC.out _ _ hF.out).2
              by_cases hjd : j ≤ e
              · obtain ⟨P, hP, hPn⟩ : ∃ P : Nat, (k : Int) - j = P ∧ P = k - j := ⟨k - j, by omega, rfl⟩
                obtain ⟨R, hR, hRn⟩ : ∃ R : Nat, (k : Int) + j = R ∧ R = k + j := ⟨k + j, by omega, rfl⟩
                have hPR : P ≤ R := by omega
                have hRs : R ≤ a0.size := by omega
                have hEnd : Hid (Ends a0 (a0.extract P R) R) := by
                  have := mir_pal1 (k := j) (fun t ht => hm1.out t (by omega)) (by omega)
                  refine ends_sub (by omega) hRs ?_
                  rw [hPn, hRn, show k + j - (k - j) = 2 * j from by omega]
                  exact this.2.2
                clear hPn hRn
                go_wp2_with fail
                refine (hAdd.out _ _ _ _ hF.out hEnd.out).mono ?_
                rintro e w5 ⟨v', rfl, hF'⟩
                go_wp2
                go_roundw
                case rel => exact ⟨j + 1, by omega, by omega, by go_num, hF'⟩
                case measure => simp [intOf] <;> omega
              · go_wp2
                go_roundw
                case rel => exact ⟨k + 1, by omega, by go_num, hF⟩
                case measure => simp [intOf] <;> omega
      · obtain ⟨⟨L, hL, ho⟩, _, _, hbb⟩ := id hF.out
        have hlen := pals_len hL
        obtain ⟨A, c, hv⟩ := ho.shape
        subst hv
        clear ho hL
        go_wp2
        go_ret
        exact ⟨rfl, bch HB hbb⟩
  · go_enter Try.func5, Try.ntmps5
    go_wp2_with fail
    refine (mirrorFact_true _).mono ?_
    rintro e w1 ⟨rfl, hb1⟩
    go_wp2_with fail
    refine (odd_bad _ a0 (by omega) w0).mono ?_
    rintro e w2 ⟨rfl, hb2⟩
    go_wp2_with fail
    refine (even_bad _ a0 (by omega) w0).mono ?_
    rintro e w4 ⟨rfl, hb4⟩
    go_wp2
    go_ret
    exact ⟨rfl, bch (bch hb1 hb2) hb4⟩
end Go.Proofs.Ythdckapielbonaa

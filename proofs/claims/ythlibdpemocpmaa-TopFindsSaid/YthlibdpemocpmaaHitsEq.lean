/- letterbecksame.Hits: it tells whether two lists of hits are the same. -/
import Derived.Test.YthlibdpemocpmaaHitsSort
import Derived.Laws.StructEq
namespace Go.Proofs.Ythlibdpemocpmaa
set_option linter.unusedVariables false
set_option linter.unusedSimpArgs false
open Go.RowKit

/-- The hits lie there, to be read, below block B. -/
def SlH (w : World) (B : Nat) (A : Option Addr) (l : List (Int × Int)) : Prop :=
  l ≠ [] → ∃ b, A = some ⟨b, 0, none⟩ ∧ b < B ∧ ∀ j x, l[j]? = some x → w.cell? ⟨b, j * 2, none⟩ = some (.int .i64 x.1) ∧ w.cell? ⟨b, j * 2 + 1, none⟩ = some (.int .i64 x.2)
theorem SlH.below {w w' : World} {B : Nat} {A : Option Addr} {l : List (Int × Int)} (h : SlH w B A l) (hb : Below B w w') : SlH w' B A l := fun hn => by
  obtain ⟨b, h1, h2, h3⟩ := h hn
  have e := hb.block b h2
  exact ⟨b, h1, h2, fun j x hx => ⟨(World.cell?_of_block (a := ⟨b, j * 2, none⟩) e).trans (h3 j x hx).1, (World.cell?_of_block (a := ⟨b, j * 2 + 1, none⟩) e).trans (h3 j x hx).2⟩⟩
theorem SlH.mono {w : World} {B B' : Nat} {A : Option Addr} {l : List (Int × Int)} (h : SlH w B A l) (hb : B ≤ B') : SlH w B' A l := fun hn => by
  obtain ⟨b, h1, h2, h3⟩ := h hn
  exact ⟨b, h1, by omega, h3⟩
theorem HL.slh {w : World} {base : Nat} {v : Value} {l : List (Int × Int)} (h : HL w base v l) : ∃ A c, v = .slice A l.length c ∧ SlH w w.heap.size A l := by
  obtain ⟨A, c, rfl, h1⟩ := h
  exact ⟨A, c, rfl, fun hn => by obtain ⟨b, h2, _, h3, h4⟩ := h1 hn; exact ⟨b, h2, h3, h4⟩⟩
theorem OwnH.slh {w : World} {base : Nat} {v : Value} {l : List (Int × Int)} (h : OwnH w base v l) : ∃ A c, v = .slice A l.length c ∧ SlH w w.heap.size A l := by
  rcases h.2 with ⟨rfl, h0⟩ | ⟨g, cap, cur, rfl, h1, hg, h2, h3, h4, h5⟩
  · exact ⟨none, 0, by rw [h0], fun hn => absurd (List.eq_nil_of_length_eq_zero h0) hn⟩
  · refine ⟨_, cap, rfl, fun hn => ⟨g, rfl, (Array.getElem?_eq_some_iff.1 hg).1, fun j x hx => ?_⟩⟩
    have hj := (List.getElem?_eq_some_iff.1 hx).1
    have e : ∀ t, t < l.length * 2 → w.cell? ⟨g, t, none⟩ = some (hitCell l t) := fun t ht => by
      have h6 : w.cell? ⟨g, t, none⟩ = (hcells l)[t]? := World.ownsRow.cellAt h t ht
      rw [h6]
      unfold hcells
      rw [List.getElem?_map, List.getElem?_range ht]; rfl
    have d0 : (j * 2) % 2 = 0 := by omega
    have d1 : (j * 2 + 1) % 2 = 1 := by omega
    have f0 : (j * 2) / 2 = j := by omega
    have f1 : (j * 2 + 1) / 2 = j := by omega
    have hx2 : l.getD j (0, 0) = x := by rw [List.getD_eq_getElem?_getD, hx]; rfl
    rw [e _ (by omega), e _ (by omega)]
    unfold hitCell
    rw [d0, d1, f0, f1, hx2]
    exact ⟨rfl, rfl⟩

theorem hit_eql (a b c d : Int) (w : World) : (Op.equalIn 10000 43 (.agg #[.int .i64 a, .int .i64 b]) (.agg #[.int .i64 c, .int .i64 d])).run Try.prog w = .ok (a == c && b == d) w := by
  have u3 := Try.underlying3
  have a3 := Try.isAgg3
  have z3 := Try.sizeOf3
  have hS : Try.prog.underlying 43 = some (.struct (Try.prog.fieldsOf 43)) := by kernel_rfl
  have hp : Try.prog.stoodInHeld 43 = false := by kernel_rfl
  rw [show (10000 : Nat) = 9999 + 1 from rfl, run_equalIn_agg w 9999 43 _ _ hS hp]
  simp only [Program.fieldsOf, Try.underlying43]
  go_simp
  by_cases h1 : a = c <;> by_cases h2 : b = d <;> simp [h1, h2]

set_option maxHeartbeats 1000000 in
theorem hits_any (w : World) (A A' : Option Addr) (c c' : Nat) (l l' : List (Int × Int)) (B : Nat) (h : SlH w B A l) (h' : SlH w B A' l') (hl : l.length ≤ 1000000) (hl' : l'.length ≤ 1000000) :
    Calls Try.prog 22 #[.slice A l.length c, .slice A' l'.length c'] w fun e w' => e = .returned (.bool (decide (l = l'))) ∧ ∃ m, w' = w.drewN m := by
  have heq := fun a b c d w => hit_eql a b c d w
  have hgd : Try.prog.eqGuardType Try.prog.depth 43 = false := by kernel_rfl
  by_cases he : l.length = l'.length
  · have hnn : ((l.length : Int) != l'.length) = false := by simp [he]
    have He := hid he
    clear he
    go_enter Try.func22, Try.ntmps22
    go_wp2
    go_loopw [5] (fun i wr => ∃ k m : Nat, k ≤ l.length ∧ i = .int .i64 k ∧ wr = w.drewN m ∧ Hid (∀ j, j < k → l[j]? = l'[j]?)) (fun i _ => l.length - (intOf i).toNat)
    case atStart => exact ⟨0, 0, Nat.zero_le _, rfl, rfl, hid fun j hj => absurd hj (by omega)⟩
    case round =>
      obtain ⟨k, m, hk, rfl, rfl, hsame⟩ := hrel
      by_cases hlt : k < l.length
      · have hlt' : k < l'.length := by have := He.out; omega
        obtain ⟨g, hA, hg, hc⟩ := h (by intro e; simp [e] at hlt)
        obtain ⟨g', hA', hg', hc'⟩ := h' (by intro e; simp [e] at hlt')
        obtain ⟨q0, q1⟩ := hc k l[k] (List.getElem?_eq_getElem hlt)
        obtain ⟨p0, p1⟩ := hc' k l'[k] (List.getElem?_eq_getElem hlt')
        obtain ⟨x, hx⟩ : ∃ x, l[k] = x := ⟨_, rfl⟩
        obtain ⟨y, hy⟩ : ∃ y, l'[k] = y := ⟨_, rfl⟩
        rw [hx] at q0 q1
        rw [hy] at p0 p1
        have HX := hid (show l[k]? = some x by rw [List.getElem?_eq_getElem hlt, hx])
        have HY := hid (show l'[k]? = some y by rw [List.getElem?_eq_getElem hlt', hy])
        subst hA hA'
        clear hc hc' hx hy
        have hkl : (k : Int) < l.length := by omega
        have hkl' : (k : Int) < l'.length := by omega
        have HN := hid (fun (e : x = y) j (hj : j < k + 1) => (show l[j]? = l'[j]? from by
          by_cases hj' : j < k
          · exact hsame.out j hj'
          · obtain rfl : j = k := by omega
            rw [HX.out, HY.out, e]))
        by_cases e : x = y
        · have HN2 := hid (HN.out e)
          subst e
          clear HN HX HY hsame
          go_wp2
          go_quiet (fail)
          go_wp2
          go_roundw
          case rel => exact ⟨k + 1, _, hlt, by go_num, rfl, HN2⟩
          case measure => simp [intOf]; omega
        · have hb : (!x.1 == y.1 || !x.2 == y.2) = true := by
            simp only [Bool.or_eq_true, Bool.not_eq_true', beq_eq_false_iff_ne, ne_eq]
            by_cases e1 : x.1 = y.1
            · exact .inr fun e2 => e (Prod.ext e1 e2)
            · exact .inl e1
          have hlne : l ≠ l' := fun e2 => by
            subst e2
            have := HX.out.symm.trans HY.out
            injection this with this
            exact e this
          have HL := hid hlne
          clear HN hsame HX HY e hlne
          go_wp2
          go_quiet (fail)
          go_wp2
          go_ret
          exact ⟨by rw [decide_eq_false HL.out]; rfl, _, World.drewN_drewN _ _ _⟩
      · have hk' : k = l.length := by omega
        subst hk'
        go_wp2
        go_ret
        refine ⟨?_, m, rfl⟩
        have : l = l' := List.ext_getElem? fun i => by
          by_cases hi : i < l.length
          · exact hsame.out i hi
          · have := He.out
            rw [List.getElem?_eq_none (by omega), List.getElem?_eq_none (by omega)]
        rw [decide_eq_true this]
        rfl
  · have hnn : ((l.length : Int) != l'.length) = true := by simp; omega
    go_enter Try.func22, Try.ntmps22
    go_wp2
    go_ret
    refine ⟨?_, 0, rfl⟩
    rw [decide_eq_false (fun e => he (by rw [e]))]
    rfl
theorem hits_eq (w : World) (A A' : Option Addr) (c c' n n' : Nat) (l l' : List (Int × Int)) (B : Nat) (h : SlH w B A l) (h' : SlH w B A' l') (hn : l.length = n) (hn' : l'.length = n') (hl : n ≤ 1000000) (hl' : n' ≤ 1000000) (b : Bool) (hb : decide (l = l') = b) :
    Calls Try.prog 22 #[.slice A n c, .slice A' n' c'] w fun e w' => e = .returned (.bool b) ∧ ∃ m, w' = w.drewN m := by
  subst hn hn' hb
  exact hits_any w A A' c c' l l' B h h' hl hl'
end Go.Proofs.Ythlibdpemocpmaa

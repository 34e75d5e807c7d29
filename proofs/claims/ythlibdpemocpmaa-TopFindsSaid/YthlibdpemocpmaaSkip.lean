/- skip.leaps and its closure, skip.Leap, skip.First. -/
import Derived.Test.YthlibdpemocpmaaFind
import Derived.Test.YthlibdpemocpmaaSkipPlain
import Derived.Maps.OwnSet
import Derived.Deep.DeepMust
import Derived.StillTailTactics
import Derived.Laws.BitsLemmas
namespace Go.Proofs.Ythlibdpemocpmaa
set_option linter.unusedVariables false
set_option linter.unusedSimpArgs false
open Go.RowKit Go.Maps

attribute [local go_sem] get_bt

/-- The datum of the map behind the first k places. -/
def LeapD (f : Nat → Nat) (n k : Nat) (D : DataW Unit) : Prop :=
  IsMap D ∧ ∀ c : Nat, c < 256 → Maps.has D (.int .u8 c) = decide (0 < lp f c k) ∧ (0 < lp f c k → D.atKey (.int .u8 c) (.lit (.int .i64 0)) = .lit (.int .i64 ((n : Int) - lp f c k)))

theorem leapD_start (f : Nat → Nat) (n : Nat) : LeapD f n 0 (.map []) := ⟨isMap_empty, fun c _ => ⟨rfl, fun h => by simp [lp] at h⟩⟩

theorem key_u8 (c : Nat) : WideAt.IsKeyLit (.int .u8 (c : Int)) := trivial

theorem leapD_step {f : Nat → Nat} {n k : Nat} {D : DataW Unit} (h : LeapD f n k D) (x : Int) (hx : x = (n : Int) - 1 - k) : LeapD f n (k + 1) (D.put (.int .u8 (f k : Int)) (.lit (.int .i64 x))) := by
  obtain ⟨hD, h⟩ := h
  refine ⟨hD.put _ _, fun c hc => ?_⟩
  by_cases e : f k = c
  · subst e
    have e2 : lp f (f k) (k + 1) = k + 1 := by unfold lp; simp
    rw [has_put_same hD (key_u8 _), atKey_put_same hD (key_u8 _), e2]
    refine ⟨by simp, fun _ => ?_⟩
    rw [hx]
    congr 2
    omega
  · have e2 : lp f c (k + 1) = lp f c k := by rw [lp, if_neg e]
    have hne : (Lit.int IntKind.u8 (c : Int)) ≠ (Lit.int IntKind.u8 (f k : Int)) := by
      intro h2
      injection h2 with _ h2
      omega
    rw [has_put_other hne, atKey_put_other hne, e2]
    exact h c hc

theorem lawU8 : Keyed Try.prog 5 := int_keyed Try.underlying5
theorem zeroInt (w : World) : (zeroValue 3).run Try.prog w = .ok (.int .i64 0) w := by kernel_rfl

theorem wf_bt (s : ByteArray) (k : Nat) : (Lit.int .u8 (bt s k : Int)).wf = true := by
  have := bt_lt s k
  simp only [Lit.wf, Bool.and_eq_true, decide_eq_true_eq]
  have e1 : IntKind.u8.min = 0 := by decide
  have e2 : IntKind.u8.max = 255 := by decide
  omega

/-- What is left by leaps, and read by its closure. -/
def LeapsIn (w : World) (s : ByteArray) (g : Nat) : Prop :=
  w.cell? ⟨g, 0, none⟩ = some (.string s) ∧ w.cell? ⟨g + 1 + 1, 0, none⟩ = some (.map (some (g + 1))) ∧ ∃ D : DataW Unit, w.ownsMap Try.prog 5 (plainElem Try.prog 3) (g + 1) s.size D ∧ LeapD (bt s) s.size (s.size - 1) D

theorem LeapsIn.below {w w' : World} {s : ByteArray} {g : Nat} (h : LeapsIn w s g) (hb : Below w.heap.size w w') : LeapsIn w' s g := by
  obtain ⟨c0, c2, D, ho, hD⟩ := h
  refine ⟨(hb.cell (World.block_lt_of_cell? w _ c0)).trans c0, (hb.cell (World.block_lt_of_cell? w _ c2)).trans c2, D, ?_, hD⟩
  obtain ⟨es, clock, h1, h2⟩ := ho
  exact ⟨es, clock, (hb.block _ (Array.getElem?_eq_some_iff.1 h1).1).trans h1, h2⟩

/-- The three blocks while leaps fills its map. -/
def LeapsTo (w : World) (s : ByteArray) (g : Nat) (k : Nat) (wr : World) : Prop :=
  wr.cell? ⟨g, 0, none⟩ = some (.string s) ∧ wr.cell? ⟨g + 1 + 1, 0, none⟩ = some (.map (some (g + 1))) ∧ (∃ D : DataW Unit, wr.ownsMap Try.prog 5 (plainElem Try.prog 3) (g + 1) k D ∧ LeapD (bt s) s.size k D) ∧ Below w.heap.size w wr

theorem leapsTo_next {w wr w3 : World} {s : ByteArray} {g k : Nat} {D : DataW Unit} (HG : w.heap.size = g) (c0 : wr.cell? ⟨g, 0, none⟩ = some (.string s)) (c2 : wr.cell? ⟨g + 1 + 1, 0, none⟩ = some (.map (some (g + 1)))) (hD : LeapD (bt s) s.size k D) (hb : Below w.heap.size w wr) {x : Int} (hx : x = (s.size : Int) - 1 - k)
    (hg : wr.drew.grownBy w3 (some (g + 1))) (ho : w3.ownsMap Try.prog 5 (plainElem Try.prog 3) (g + 1) (k + 1) (D.put (.int .u8 (bt s k : Int)) (.lit (.int .i64 x)))) : LeapsTo w s g (k + 1) w3 := by
  have h0 := World.block_lt_of_cell? wr _ c0
  have h2 := World.block_lt_of_cell? wr _ c2
  refine ⟨?_, ?_, ⟨_, ho, leapD_step hD x hx⟩, ?_⟩
  · exact (World.cell?_of_block (w := wr.drew) (w' := w3) (a := ⟨g, 0, none⟩) (hg.block g h0 (by simp))).trans c0
  · exact (World.cell?_of_block (w := wr.drew) (w' := w3) (a := ⟨g + 1 + 1, 0, none⟩) (hg.block (g + 1 + 1) h2 (by simp))).trans c2
  · have hb1 : Below w.heap.size w wr.drew := below_dn hb 1
    exact hb1.grown hg (by have := hb.size; simpa using this) (fun k hk => by cases hk; omega)

set_option maxRecDepth 100000 in
set_option maxHeartbeats 1000000 in
theorem leaps_any (w : World) (s : ByteArray) (hs : s.size ≤ 24) (hpos : 0 < s.size) :
    Calls Try.prog 51 #[.string s] w fun e w' => ∃ g, e = .returned (.func (.func 65) #[] #[.pointer (some ⟨g + 1 + 1, 0, none⟩), .pointer (some ⟨g, 0, none⟩)]) ∧ w.heap.size ≤ g ∧ LeapsIn w' s g ∧ Below w.heap.size w w' := by
  have hmm := @run_makeMap Try.prog
  go_enter Try.func51, Try.ntmps51
  go_wp2_with fail
  have h0 : LeapsTo w s w.heap.size 0 (((w.alloc (Obj.cells #[Value.string s] 9)).alloc (Obj.map #[] 0)).alloc (Obj.cells #[Value.map (some (w.heap.size + 1))] 65)) := by
    unfold LeapsTo
    have hm := (World.ownsMap_made (H := Unit) (w.alloc (Obj.cells #[Value.string s] 9)) Try.prog 5 (plainElem Try.prog 3)).alloc (Obj.cells #[Value.map (some (w.heap.size + 1))] 65)
    rw [show (w.alloc (Obj.cells #[Value.string s] 9)).heap.size = w.heap.size + 1 from by simp] at hm
    refine ⟨by go_simp, by go_simp, ⟨_, hm, leapD_start _ _⟩, ?_⟩
    exact (((Below.refl _ _).alloc (Nat.le_refl _) _).alloc (by simp) _).alloc (by simp; omega) _
  have H0 := hid h0
  obtain ⟨g, hg, HG⟩ : ∃ g, w.heap.size = g ∧ Hid (w.heap.size = g) := ⟨_, rfl, rfl⟩
  rw [hg] at H0 h0
  rw [hg]
  clear h0 hmm
  go_loopw [9] (fun i wr => ∃ k : Nat, k + 1 ≤ s.size ∧ i = .int .i64 k ∧ Hid (LeapsTo w s g k wr)) (fun i _ => s.size - (intOf i).toNat)
  case atStart => exact ⟨0, by omega, rfl, H0⟩
  case round =>
    clear H0
    obtain ⟨k, hk, rfl, hL⟩ := hrel
    by_cases hlt : k + 1 < s.size
    · have hlt' : (k : Int) < (s.size : Int) - 1 := by omega
      have hk2 : k < s.size := by omega
      have hk3 : (k : Int) < s.size := by omega
      obtain ⟨c0, c2, ⟨D, hown, hD⟩, hb⟩ := id hL.out
      have Hnx := hid (fun w3 x (hx : x = (s.size : Int) - 1 - k) h1 h2 => leapsTo_next (w3 := w3) HG.out c0 c2 hD hb (x := x) hx h1 h2)
      clear hD hb
      go_wp2_with fail
      go_still_tail 9, (by kernel_rfl)
      change wpList _ _ _ _ _ wr.drew
      have hx1 : IntKind.i64.wrap (IntKind.i64.wrap ((s.size : Int) - 1) - k) = (s.size : Int) - 1 - k := by
        rw [IntKind.wrap_i64, IntKind.wrap_i64]; omega
      simp only [hx1]
      have hkey := keyOf_int_mk Try.underlying5 (show (Lit.int .u8 (bt s k : Int)).wf = true from wf_bt s k)
      have hown2 := hown.drew
      clear hown c0 c2
      generalize wr.drew = w2 at *
      go_wp2_with (first | (at_mapUpdate; go_must (refine wpList_mapUpdate_own _ rfl _ _ _ 65 rfl 5 3 lawU8 Try.underlying65 _ (g + 1) k _ rfl hown2 (by unfold maxLen; omega) _ _ _ rfl rfl hkey _ [] (plainElem_int Try.underlying3 (WalkArith.wf_i64 (by omega))) ?_); intro w3 hown3 hgrow3))
      go_roundw
      case rel => exact ⟨k + 1, by omega, by go_num, hid (Hnx.out _ _ rfl hgrow3 hown3)⟩
      case measure => simp [intOf]; omega
    · have hlt' : ¬ (k : Int) < (s.size : Int) - 1 := by omega
      have hk1 : k = s.size - 1 := by omega
      have hL' := hL.out
      rw [hk1] at hL'
      have HL := hid hL'
      clear hL' hk1
      go_wp2
      go_ret
      refine ⟨g, rfl, Nat.le_refl _, ?_, HG.out ▸ HL.out.2.2.2⟩
      obtain ⟨c0, c2, ⟨D, hown, hD⟩, hb⟩ := HL.out
      exact ⟨c0, c2, D, hown.mono (by omega), hD⟩

set_option maxRecDepth 100000 in
set_option maxHeartbeats 1000000 in
theorem leapOf_any (w : World) (s : ByteArray) (g c : Nat) (hs : s.size ≤ 24) (hc : c < 256) (h : LeapsIn w s g) :
    Calls Try.prog 65 #[.int .u8 c, .pointer (some ⟨g + 1 + 1, 0, none⟩), .pointer (some ⟨g, 0, none⟩)] w fun e w' => e = .returned (.int .i64 (leapV (bt s) s.size c)) ∧ w' = w := by
  obtain ⟨c0, c2, D, hown, hIs, hD⟩ := h
  obtain ⟨hhas, hat⟩ := hD c hc
  have hkey := keyOf_int_mk Try.underlying5 (show (Lit.int .u8 (c : Int)).wf = true from by
    simp only [Lit.wf, Bool.and_eq_true, decide_eq_true_eq]
    have e1 : IntKind.u8.min = 0 := by decide
    have e2 : IntKind.u8.max = 255 := by decide
    omega)
  have hle := lp_le (bt s) c (s.size - 1)
  have hv : leapV (bt s) s.size c = s.size - lp (bt s) c (s.size - 1) := rfl
  generalize leapV (bt s) s.size c = V at hv ⊢
  generalize lp (bt s) c (s.size - 1) = q at *
  clear hD hIs
  by_cases hq : 0 < q
  · have hat := hid (hat hq)
    rw [decide_eq_true hq] at hhas
    go_enter Try.func65, Try.ntmps65
    go_wp2_with (first | (at_lookup; go_must (refine wpList_lookup_own_ok_int _ rfl _ _ 65 rfl 5 3 .i64 lawU8 Try.underlying65 Try.underlying3 (zeroInt _) (g + 1) s.size D rfl hown _ _ rfl hkey ?_); intro z hz hwz; rw [hhas]))
    go_ret
    rw [hat.out] at hz
    injection hz with hz
    injection hz with _ hz
    have e : z = ((s.size - q : Nat) : Int) := by omega
    rw [hv, e]
    exact ⟨rfl, rfl⟩
  · rw [decide_eq_false hq] at hhas
    clear hat
    go_enter Try.func65, Try.ntmps65
    go_wp2_with (first | (at_lookup; go_must (refine wpList_lookup_own_ok_int _ rfl _ _ 65 rfl 5 3 .i64 lawU8 Try.underlying65 Try.underlying3 (zeroInt _) (g + 1) s.size D rfl hown _ _ rfl hkey ?_); intro z hz hwz; rw [hhas]))
    go_ret
    have e : ((s.size - q : Nat) : Int) = s.size := by omega
    rw [hv, e]
    exact ⟨rfl, rfl⟩
end Go.Proofs.Ythlibdpemocpmaa

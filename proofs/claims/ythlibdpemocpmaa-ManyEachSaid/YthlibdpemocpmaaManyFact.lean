/- letterbecklaw1.manyFact returns true. -/
import Derived.Test.YthlibdpemocpmaaManyCut
import Derived.Test.YthlibdpemocpmaaHitsEq
import Derived.Test.YthlibdpemocpmaaTrieFact
namespace Go.Proofs.Ythlibdpemocpmaa
set_option linter.unusedVariables false
set_option linter.unusedSimpArgs false
open Go.RowKit

def ws1 : List ByteArray := [⟨#[104, 101]⟩, ⟨#[115, 104, 101]⟩]
def ws2 : List ByteArray := [⟨#[97]⟩, ⟨#[97, 98]⟩]
theorem hits_lit : hitsL ws1 ⟨#[115, 104, 101]⟩ = [(0, 1), (1, 0)] := by decide +kernel
theorem cut_lit : CutL ws2 ⟨#[97, 98, 97]⟩ 0 [1, 0] := by
  refine ⟨by decide, 1, by decide, rfl, wl_of (m := 1) (by decide +kernel), ?_⟩
  refine ⟨by decide, 0, by decide, rfl, wl_of (m := 0) (by decide +kernel), ?_⟩
  show 0 + _ + _ = _
  decide +kernel
theorem slh_new (w : World) (a b c d : Int) (B : Nat) (hB : w.heap.size < B) : SlH (w.alloc (.cells #[.int .i64 a, .int .i64 b, .int .i64 c, .int .i64 d] 43)) B (some ⟨w.heap.size, 0, none⟩) [(a, b), (c, d)] := fun _ =>
  ⟨w.heap.size, rfl, hB, fun j x hx => by
    have hc : ∀ i, (w.alloc (.cells #[.int .i64 a, .int .i64 b, .int .i64 c, .int .i64 d] 43)).cell? ⟨w.heap.size, i, none⟩ = (#[.int .i64 a, .int .i64 b, .int .i64 c, .int .i64 d] : Array Value)[i]? := fun i => cell_of_row _ w.heap.size i _ 43 (0, 0) (heap_alloc_new w _)
    match j, hx with
    | 0, hx => injection hx with hx; subst hx; exact ⟨hc 0, hc 1⟩
    | 1, hx => injection hx with hx; subst hx; exact ⟨hc 2, hc 3⟩
    | j + 2, hx => simp at hx⟩

set_option maxRecDepth 100000 in
set_option maxHeartbeats 2000000 in
theorem manyFact_true (w : World) : Calls Try.prog 18 #[] w fun e w' => e = .returned (.bool true) ∧ Below w.heap.size w w' := by
  have H1 := hid (fun w => manyAll_ok (w.alloc (.cells #[.string ⟨#[104, 101]⟩, .string ⟨#[115, 104, 101]⟩] 9)) (some ⟨w.heap.size, 0, none⟩) 2 ws1 (sl_two w _ _ _ (by simp)) (Nat.le_refl _) (wall_of (by decide)) ⟨#[115, 104, 101]⟩ (by decide))
  have H2 := hid (fun w => manyCut_ok (w.alloc (.cells #[.string ⟨#[97]⟩, .string ⟨#[97, 98]⟩] 9)) (some ⟨w.heap.size, 0, none⟩) 2 ws2 (sl_two w _ _ _ (by simp)) (Nat.le_refl _) (wall_of (by decide)) ⟨#[97, 98, 97]⟩ (by decide))
  rw [hits_lit] at H1
  have e1 : ws1.length = 2 := rfl
  have e2 : ws2.length = 2 := rfl
  rw [e1] at H1
  rw [e2] at H2
  go_enter Try.func18, Try.ntmps18
  go_wp2_with fail
  refine (H1.out _).mono ?_
  rintro e w1 ⟨v1, rfl, hl1, hb1⟩
  have hB1 : Below w.heap.size w w1 := bch ((Below.refl _ _).alloc (Nat.le_refl _) _) hb1
  clear hb1
  go_wp2_with fail
  refine (H2.out _).mono ?_
  rintro e w2 ⟨hE, hb2⟩
  have hB2 : Below w.heap.size w w2 := bch hB1 (bch ((Below.refl _ _).alloc (Nat.le_refl _) _) hb2)
  have hl2 := (hl1.below ((Below.refl _ _).alloc (Nat.le_refl _) _)).below hb2
  rcases hE with ⟨l, v2, hc, rfl, ho2⟩ | ⟨hn, _⟩
  · have hl := cutl_unique (wall_dist (ws := ws2) (wall_of (by decide))) hc cut_lit
    subst hl
    obtain ⟨A2, c2, rfl⟩ := ho2.shape
    obtain ⟨A1, c1, rfl, hs1⟩ := hl2.slh
    clear hb2 hB1 hl1 hl2 hc
    go_wp2_with fail
    have hh := hits_eq (w2.alloc (.cells #[.int .i64 0, .int .i64 1, .int .i64 1, .int .i64 0] 43)) A1 (some ⟨w2.heap.size, 0, none⟩) c1 2 2 2 [(0, 1), (1, 0)] [(0, 1), (1, 0)] (w2.heap.size + 1) ((hs1.below ((Below.refl _ _).alloc (Nat.le_refl _) _)).mono (by omega)) (slh_new w2 0 1 1 0 _ (by omega)) rfl rfl (by decide) (by decide) true (by decide)
    refine hh.mono ?_
    rintro e w3 ⟨rfl, m, rfl⟩
    have ho3 := (ho2.alloc (.cells #[.int .i64 0, .int .i64 1, .int .i64 1, .int .i64 0] 43)).drewN m
    have hB3 : Below w.heap.size w ((w2.alloc (.cells #[.int .i64 0, .int .i64 1, .int .i64 1, .int .i64 0] 43)).drewN m) := below_dn (hB2.alloc hB2.size _) m
    obtain ⟨w3, hw3⟩ : ∃ w3, (w2.alloc (.cells #[.int .i64 0, .int .i64 1, .int .i64 1, .int .i64 0] 43)).drewN m = w3 := ⟨_, rfl⟩
    rw [hw3] at ho3 hB3 ⊢
    clear hw3 hs1 ho2 hB2 hh
    go_wp2_with fail
    have hi := ints_eq (w3.alloc (.cells (ints [1, 0]).toArray 3)) A2 (some ⟨w3.heap.size, 0, none⟩) c2 2 2 2 [1, 0] [1, 0] (w3.heap.size + 1) ((ho3.alloc _).slB _ (by simp)) (sl_new w3 _ _ (by omega)) rfl rfl (by decide) (by decide) true (by decide)
    refine hi.mono ?_
    rintro e w4 ⟨rfl, hb4⟩
    have hB4 : Below w3.heap.size w3 w4 := ((Below.refl _ _).alloc (Nat.le_refl _) _).trans (hb4.mono (by simp))
    go_wp2_with fail
    go_ret
    exact ⟨rfl, bch hB3 hB4⟩
  · exact absurd cut_lit (hn _)
end Go.Proofs.Ythlibdpemocpmaa

/- suffix.Order's two closures: the rank of a place, and which of two places comes first. -/
import Derived.Test.YthlibdpemocpmaaHitsCmp
import Derived.Test.YthlibdpemocpmaaShelfInt
import Derived.Shelf.SlSortCmp.Whole1
import Derived.RangeFuncBox
import Derived.Deep.RegionHeld3
import Derived.Test.YthlibdpemocpmaaOwnAt
namespace Go.Proofs.Ythlibdpemocpmaa
set_option linter.unusedVariables false
set_option linter.unusedSimpArgs false
open Go.RowKit Go.Sort Go.Shelf Go.Lib

/-- The rank of a place: -1 behind the end. -/
def rkAt (rk : List Int) (i : Nat) : Int := rk.getD i (-1)
/-- Which of two places comes first, by its rank and by the rank h places on. -/
def cmpR (rk : List Int) (h a b : Nat) : Int := if cmpI (rkAt rk a) (rkAt rk b) ≠ 0 then cmpI (rkAt rk a) (rkAt rk b) else cmpI (rkAt rk (a + h)) (rkAt rk (b + h))

/-- The numbers of a list lie from the beginning of block g on. -/
def Ints (w : World) (g : Nat) (l : List Int) : Prop := ∀ j x, l[j]? = some x → w.cell? ⟨g, j, none⟩ = some (.int .i64 x)

theorem at_any (w : World) (br g n c : Nat) (rk : List Int) (hb : w.cell? ⟨br, 0, none⟩ = some (.slice (some ⟨g, 0, none⟩) n c)) (hn : rk.length = n) (hc : Ints w g rk) (i : Nat) (hi : i ≤ 1000) (x : Int) (hx : rkAt rk i = x) :
    Calls Try.prog 44 #[.int .i64 (i : Int), .pointer (some ⟨br, 0, none⟩)] w fun e w' => e = .returned (.int .i64 x) ∧ w' = w := by
  by_cases h : i < n
  · have h' : (i : Int) < n := by omega
    have hq := hc i x (by unfold rkAt at hx; rw [← hx, List.getD_eq_getElem?_getD, List.getElem?_eq_getElem (by omega)]; rfl)
    clear hx hc
    go_enter Try.func44, Try.ntmps44
    go_wp2_with fail
    go_ret
    exact ⟨rfl, rfl⟩
  · have h' : ¬ (i : Int) < n := by omega
    have hx2 := hid (show (-1 : Int) = x by unfold rkAt at hx; rw [← hx, List.getD_eq_getElem?_getD, List.getElem?_eq_none (by omega)]; rfl)
    clear hx hc
    go_enter Try.func44, Try.ntmps44
    go_wp2_with fail
    go_ret
    exact ⟨by rw [← hx2.out]; rfl, rfl⟩

/-- What the second closure reads. -/
structure LessAt (w : World) (ba bk br g n c k : Nat) (rk : List Int) : Prop where
  ba : w.cell? ⟨ba, 0, none⟩ = some (.func (.func 44) #[] #[.pointer (some ⟨br, 0, none⟩)])
  bk : w.cell? ⟨bk, 0, none⟩ = some (.int .i64 (k : Int))
  br : w.cell? ⟨br, 0, none⟩ = some (.slice (some ⟨g, 0, none⟩) n c)
  len : rk.length = n
  ints : Ints w g rk

theorem LessAt.drew {w : World} {ba bk br g n c k : Nat} {rk : List Int} (h : LessAt w ba bk br g n c k rk) : LessAt w.drew ba bk br g n c k rk := ⟨h.ba, h.bk, h.br, h.len, h.ints⟩

set_option maxRecDepth 100000 in
set_option maxHeartbeats 2000000 in
theorem less_any (W : World) (ba bk br g n c k : Nat) (rk : List Int) (hL : LessAt W ba bk br g n c k rk) (hk : k ≤ 100) (a b : Nat) (ha : a ≤ 100) (hb : b ≤ 100) :
    Calls Try.prog 45 #[.int .i64 (a : Int), .int .i64 (b : Int), .pointer (some ⟨ba, 0, none⟩), .pointer (some ⟨bk, 0, none⟩)] W fun e w' => e = .returned (.int .i64 (cmpR rk (k / 2) a b)) ∧ ∃ q os', w' = Go.Sort.grow (W.drewN q) os' := by
  have HA := hid (fun (i : Nat) (hi : i ≤ 1000) (x : Int) (hx : Hid (rkAt rk i = x)) => at_any W.drew br g n c rk hL.drew.br hL.len hL.drew.ints i hi x hx.out)
  have H := hid (show cmpR rk (k / 2) a b = if cmpI (rkAt rk a) (rkAt rk b) ≠ 0 then cmpI (rkAt rk a) (rkAt rk b) else cmpI (rkAt rk (a + k / 2)) (rkAt rk (b + k / 2)) from rfl)
  obtain ⟨x0, hx0⟩ : ∃ x, rkAt rk a = x := ⟨_, rfl⟩
  obtain ⟨y0, hy0⟩ : ∃ x, rkAt rk b = x := ⟨_, rfl⟩
  obtain ⟨x1, hx1⟩ : ∃ x, rkAt rk (a + k / 2) = x := ⟨_, rfl⟩
  obtain ⟨y1, hy1⟩ : ∃ x, rkAt rk (b + k / 2) = x := ⟨_, rfl⟩
  obtain ⟨u, hu⟩ : ∃ u, cmpI x0 y0 = u := ⟨_, rfl⟩
  obtain ⟨v, hv⟩ : ∃ v, cmpI x1 y1 = v := ⟨_, rfl⟩
  rw [hx0, hy0, hx1, hy1, hu, hv] at H
  have HX0 := hid hx0
  have HY0 := hid hy0
  have HX1 := hid hx1
  have HY1 := hid hy1
  have HU := hid hu
  have HV := hid hv
  have q0 := hL.ba
  have q1 := hL.bk
  have hbl := World.block_lt_of_cell? W ⟨ba, 0, none⟩ q0
  have hkl := World.block_lt_of_cell? W ⟨bk, 0, none⟩ q1
  have HC := hid (fun (x y z : Int) (h : Hid (cmpI x y = z)) w => (show Calls Try.prog 39 #[.int .i64 x, .int .i64 y] w fun e w' => e = .returned (.int .i64 z) ∧ w' = w from by rw [← h.out]; exact cmpI_any x y w))
  have h3 : Calls Try.prog 38 #[.slice (some ⟨W.heap.size, 0, none⟩) 2 2] (W.drew.alloc (Obj.cells #[.int .i64 u, .int .i64 v] 3)) fun e w' => e = .returned (.int .i64 (if u ≠ 0 then u else v)) ∧ w' = W.drew.alloc (Obj.cells #[.int .i64 u, .int .i64 v] 3) := or2_any u v _ _ (by go_simp) (by go_simp)
  obtain ⟨r, hr⟩ : ∃ r, (if u ≠ 0 then u else v) = r := ⟨_, rfl⟩
  rw [hr] at h3 H
  have H3 := hid h3
  have hd : (k : Int).tdiv 2 = ((k / 2 : Nat) : Int) := by
    rw [Int.tdiv_eq_ediv_of_nonneg (by omega)]; omega
  obtain ⟨p, hp⟩ : ∃ p, k / 2 = p := ⟨_, rfl⟩
  rw [hp] at hd HX1 HY1
  have hpl : p ≤ 100 := by omega
  obtain ⟨a2, e1, ha2⟩ : ∃ a2 : Nat, (a : Int) + p = a2 ∧ a2 = a + p := ⟨a + p, by omega, rfl⟩
  obtain ⟨b2, e2, hb2⟩ : ∃ b2 : Nat, (b : Int) + p = b2 ∧ b2 = b + p := ⟨b + p, by omega, rfl⟩
  have hw1 : IntKind.i64.wrap (p : Int) = p := by rw [IntKind.wrap_i64]; omega
  have hw2 : IntKind.i64.wrap (a2 : Int) = a2 := by rw [IntKind.wrap_i64]; omega
  have hw3 : IntKind.i64.wrap (b2 : Int) = b2 := by rw [IntKind.wrap_i64]; omega
  have ha3 : a2 ≤ 1000 := by omega
  have hb3 : b2 ≤ 1000 := by omega
  rw [← ha2] at HX1
  rw [← hb2] at HY1
  have Q := hid (show W.drew.cell? ⟨ba, 0, none⟩ = some (.func (.func 44) #[] #[.pointer (some ⟨br, 0, none⟩)]) ∧ W.drew.cell? ⟨bk, 0, none⟩ = some (.int .i64 (k : Int)) from ⟨q0, q1⟩)
  have QA := hid (show ∀ o, (W.drew.alloc o).cell? ⟨ba, 0, none⟩ = some (.func (.func 44) #[] #[.pointer (some ⟨br, 0, none⟩)]) ∧ (W.drew.alloc o).cell? ⟨bk, 0, none⟩ = some (.int .i64 (k : Int)) from fun o =>
    ⟨(World.cell?_of_block (a := ⟨ba, 0, none⟩) (Go.Deep.blk_alloc_lt W.drew o ba hbl)).trans q0, (World.cell?_of_block (a := ⟨bk, 0, none⟩) (Go.Deep.blk_alloc_lt W.drew o bk hkl)).trans q1⟩)
  have H0 := hid (show ∃ q os', (W.drew.alloc (Obj.cells #[.int .i64 u, .int .i64 v] 3)) = Go.Sort.grow (W.drewN q) os' from ⟨1, _, by rw [Go.Sort.alloc_eq_grow]; rfl⟩)
  clear hx0 hy0 hx1 hy1 hu hv hr h3 hp hL ha2 hb2
  go_enter Try.func45, Try.ntmps45
  go_wp2_with fail
  go_region_held3 (fun w' => w'.cell? ⟨ba, 0, none⟩ = some (.func (.func 44) #[] #[.pointer (some ⟨br, 0, none⟩)]) ∧ w'.cell? ⟨bk, 0, none⟩ = some (.int .i64 (k : Int))) (first | exact Q.out | exact QA.out _)
    (first
    | (go_at_call_of 44 (Value.int IntKind.i64 (a : Int)); refine (HA.out a (by omega) _ (by assumption)).mono ?_; rintro e w' ⟨rfl, rfl⟩)
    | (go_at_call_of 44 (Value.int IntKind.i64 (b : Int)); refine (HA.out b (by omega) _ (by assumption)).mono ?_; rintro e w' ⟨rfl, rfl⟩)
    | (go_at_call_of 44 (Value.int IntKind.i64 (a2 : Int)); refine (HA.out a2 (by omega) _ (by assumption)).mono ?_; rintro e w' ⟨rfl, rfl⟩)
    | (go_at_call_of 44 (Value.int IntKind.i64 (b2 : Int)); refine (HA.out b2 (by omega) _ (by assumption)).mono ?_; rintro e w' ⟨rfl, rfl⟩)
    | (go_at_call 39; refine (HC.out _ _ _ (by assumption) _).mono ?_; rintro e w' ⟨rfl, rfl⟩)
    | (go_at_call 38; refine H3.out.mono ?_; rintro e w' ⟨rfl, rfl⟩))
  all_goals
    go_wp2_with fail
    go_ret
    exact ⟨by rw [H.out]; rfl, H0.out⟩

/-- It is a strict weak order. -/
theorem ltOf_cmpR (rk : List Int) (h : Nat) (x y : Fin 24) : ltOf (fun x y : Fin 24 => cmpR rk h x.val y.val) x y = decide (rkAt rk x.val < rkAt rk y.val ∨ (rkAt rk x.val = rkAt rk y.val ∧ rkAt rk (x.val + h) < rkAt rk (y.val + h))) := by
  show decide (cmpR rk h x.val y.val < 0) = _
  unfold cmpR
  rw [decide_eq_decide]
  have h1 : ∀ x y : Int, (cmpI x y < 0 ↔ x < y) ∧ (cmpI x y = 0 ↔ x = y) := fun x y => by
    unfold cmpI
    by_cases h1 : x < y
    · rw [if_pos h1]; omega
    · rw [if_neg h1]
      by_cases h2 : y < x
      · rw [if_pos h2]; omega
      · rw [if_neg h2]; omega
  have a := h1 (rkAt rk x.val) (rkAt rk y.val)
  have b := h1 (rkAt rk (x.val + h)) (rkAt rk (y.val + h))
  split <;> omega
theorem swo_cmpR (rk : List Int) (h : Nat) : SWO (ltOf (fun x y : Fin 24 => cmpR rk h x.val y.val)) where
  irrefl x := by rw [ltOf_cmpR]; simp
  trans x y z h1 h2 := by
    rw [ltOf_cmpR] at *
    simp only [decide_eq_true_eq] at *
    omega
  ntrans x y z h1 h2 := by
    rw [ltOf_cmpR] at *
    simp only [decide_eq_false_iff_not] at *
    omega
end Go.Proofs.Ythlibdpemocpmaa

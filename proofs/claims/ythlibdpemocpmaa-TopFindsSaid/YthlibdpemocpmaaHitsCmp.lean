/- The order of the hits: many.All's closure. -/
import Derived.Test.YthlibdpemocpmaaHitsPlain
import Derived.Deep.RegionHeld3
import Derived.Shelf.GgSortFunc.InsertionK
import Derived.Deep.DeepMust
namespace Go.Proofs.Ythlibdpemocpmaa
set_option linter.unusedVariables false
set_option linter.unusedSimpArgs false
open Go.RowKit

/-- What cmp.Compare says. -/
def cmpI (x y : Int) : Int := if x < y then -1 else if y < x then 1 else 0
def cmpH (x y : Int × Int) : Int := if cmpI x.1 y.1 ≠ 0 then cmpI x.1 y.1 else cmpI x.2 y.2

theorem cmpI_any (x y : Int) (w : World) : Calls Try.prog 39 #[.int .i64 x, .int .i64 y] w fun e w' => e = .returned (.int .i64 (cmpI x y)) ∧ w' = w := by
  have hn : ∀ z W, Calls Try.prog 50 #[.int .i64 z] W fun e w' => e = .returned (.bool false) ∧ w' = W := fun z W => by
    go_enter Try.func50, Try.ntmps50
    go_wp2_with fail
    go_ret
    exact ⟨rfl, rfl⟩
  obtain ⟨r, hr⟩ : ∃ r, cmpI x y = r := ⟨_, rfl⟩
  have HR := hid hr
  rw [hr]
  clear hr
  go_enter Try.func39, Try.ntmps39
  go_wp2_with fail
  refine (hn x w).mono ?_
  rintro e w1 ⟨rfl, rfl⟩
  go_wp2_with fail
  refine (hn y w1).mono ?_
  rintro e w1 ⟨rfl, rfl⟩
  by_cases h1 : x < y
  · have H1 := hid h1
    go_wp2_with fail
    go_ret
    exact ⟨by rw [← HR.out, cmpI, if_pos H1.out]; rfl, rfl⟩
  · have H1 := hid h1
    by_cases h2 : y < x
    · have H2 := hid h2
      go_wp2_with fail
      go_ret
      exact ⟨by rw [← HR.out, cmpI, if_neg (by have := H1.out; omega), if_pos H2.out]; rfl, rfl⟩
    · have H2 := hid h2
      go_wp2_with fail
      go_ret
      exact ⟨by rw [← HR.out, cmpI, if_neg (by have := H1.out; omega), if_neg (by have := H2.out; omega)]; rfl, rfl⟩

theorem or2_any (x y : Int) (w : World) (b : Nat) (c0 : w.cell? ⟨b, 0, none⟩ = some (.int .i64 x)) (c1 : w.cell? ⟨b, 1, none⟩ = some (.int .i64 y)) :
    Calls Try.prog 38 #[.slice (some ⟨b, 0, none⟩) 2 2] w fun e w' => e = .returned (.int .i64 (if x ≠ 0 then x else y)) ∧ w' = w := by
  obtain ⟨r, hr⟩ : ∃ r, (if x ≠ 0 then x else y) = r := ⟨_, rfl⟩
  have HR := hid hr
  rw [hr]
  clear hr
  go_enter Try.func38, Try.ntmps38
  go_wp2_with fail
  go_loopw [8] (fun i wr => wr = w ∧ ∃ k : Nat, k ≤ 2 ∧ i = .int .i64 k ∧ Hid (0 < k → x = 0) ∧ Hid (1 < k → y = 0)) (fun i _ => 2 - (intOf i).toNat)
  case atStart => exact ⟨rfl, 0, by omega, rfl, hid (by omega), hid (by omega)⟩
  case round =>
    obtain ⟨rfl, k, hk, rfl, h0, h1⟩ := hrel
    match k, hk, h0, h1 with
    | 0, _, _, _ =>
      by_cases e : x = 0
      · have HX : Hid (0 < 1 → x = 0) := hid fun _ => e
        go_wp2_with fail
        go_roundw
        case rel => exact ⟨trivial, 1, by omega, rfl, HX, hid (by omega)⟩
        case measure => simp [intOf]
      · have HE := hid e
        go_wp2_with fail
        go_ret
        exact ⟨by rw [← HR.out, if_pos HE.out]; rfl, rfl⟩
    | 1, _, h0, _ =>
      have HX := hid (h0.out (by omega))
      by_cases e : y = 0
      · have HY : Hid (1 < 2 → y = 0) := hid fun _ => e
        go_wp2_with fail
        go_roundw
        case rel => exact ⟨trivial, 2, by omega, rfl, hid (fun _ => HX.out), HY⟩
        case measure => simp [intOf]
      · go_wp2_with fail
        go_ret
        exact ⟨by rw [← HR.out, if_neg (by rw [HX.out]; simp)]; rfl, rfl⟩
    | 2, _, h0, h1 =>
      have HX := hid (h0.out (by omega))
      have HY := hid (h1.out (by omega))
      go_wp2_with fail
      go_ret
      exact ⟨by rw [← HR.out, if_neg (by rw [HX.out]; simp), HY.out]; rfl, rfl⟩
    | k + 3, hk, _, _ => omega

set_option maxHeartbeats 600000 in
theorem closure_any (x y : Int × Int) (W : World) : Calls Try.prog 37 #[.agg #[.int .i64 x.1, .int .i64 x.2], .agg #[.int .i64 y.1, .int .i64 y.2]] W fun e w' => e = .returned (.int .i64 (cmpH x y)) ∧ ∃ q os', w' = Go.Sort.grow (W.drewN q) os' := by
  have hc := fun x y w => cmpI_any x y w
  have ho := fun x y w b c0 c1 => or2_any x y w b c0 c1
  have H := hid (show cmpH x y = if cmpI x.1 y.1 ≠ 0 then cmpI x.1 y.1 else cmpI x.2 y.2 from rfl)
  go_enter Try.func37, Try.ntmps37
  go_wp2_with fail
  have q0 : ((W.alloc (Obj.cells #[.int .i64 x.1, .int .i64 x.2] 43)).alloc (Obj.cells #[.int .i64 y.1, .int .i64 y.2] 43)).cell? ⟨W.heap.size, 0, none⟩ = some (.int .i64 x.1) := by go_simp
  have q1 : ((W.alloc (Obj.cells #[.int .i64 x.1, .int .i64 x.2] 43)).alloc (Obj.cells #[.int .i64 y.1, .int .i64 y.2] 43)).cell? ⟨W.heap.size, 1, none⟩ = some (.int .i64 x.2) := by go_simp
  have q2 : ((W.alloc (Obj.cells #[.int .i64 x.1, .int .i64 x.2] 43)).alloc (Obj.cells #[.int .i64 y.1, .int .i64 y.2] 43)).cell? ⟨W.heap.size + 1, 0, none⟩ = some (.int .i64 y.1) := by go_simp
  have q3 : ((W.alloc (Obj.cells #[.int .i64 x.1, .int .i64 x.2] 43)).alloc (Obj.cells #[.int .i64 y.1, .int .i64 y.2] 43)).cell? ⟨W.heap.size + 1, 1, none⟩ = some (.int .i64 y.2) := by go_simp
  have hW2 : (W.alloc (Obj.cells #[.int .i64 x.1, .int .i64 x.2] 43)).alloc (Obj.cells #[.int .i64 y.1, .int .i64 y.2] 43) = Go.Sort.grow W #[Obj.cells #[.int .i64 x.1, .int .i64 x.2] 43, Obj.cells #[.int .i64 y.1, .int .i64 y.2] 43] := by
    rw [Go.Sort.alloc_eq_grow, Go.Sort.alloc_eq_grow, Go.Sort.grow_grow]; rfl
  have HW2 := hid hW2
  have hs : ((W.alloc (Obj.cells #[.int .i64 x.1, .int .i64 x.2] 43)).alloc (Obj.cells #[.int .i64 y.1, .int .i64 y.2] 43)).heap.size = W.heap.size + 2 := by simp
  clear hW2
  generalize ((W.alloc (Obj.cells #[.int .i64 x.1, .int .i64 x.2] 43)).alloc (Obj.cells #[.int .i64 y.1, .int .i64 y.2] 43)) = wv at *
  obtain ⟨x1, x2⟩ := x
  obtain ⟨y1, y2⟩ := y
  simp only at *
  obtain ⟨a, ha⟩ : ∃ a, cmpI x1 y1 = a := ⟨_, rfl⟩
  obtain ⟨b, hb⟩ : ∃ b, cmpI x2 y2 = b := ⟨_, rfl⟩
  have HC := hid (fun (x y z : Int) (h : Hid (cmpI x y = z)) w => (show Calls Try.prog 39 #[.int .i64 x, .int .i64 y] w fun e w' => e = .returned (.int .i64 z) ∧ w' = w from by rw [← h.out]; exact hc x y w))
  have HA := hid ha
  have HB := hid hb
  have h3 : Calls Try.prog 38 #[.slice (some ⟨wv.heap.size, 0, none⟩) 2 2] (wv.alloc (Obj.cells #[.int .i64 a, .int .i64 b] 3)).drew fun e w' => e = .returned (.int .i64 (if a ≠ 0 then a else b)) ∧ w' = (wv.alloc (Obj.cells #[.int .i64 a, .int .i64 b] 3)).drew := ho a b _ _ (by go_simp) (by go_simp)
  rw [ha, hb] at H
  obtain ⟨r, hr⟩ : ∃ r, (if a ≠ 0 then a else b) = r := ⟨_, rfl⟩
  rw [hr] at h3 H
  obtain ⟨B, hB⟩ : ∃ B, W.heap.size = B := ⟨_, rfl⟩
  rw [hB] at q0 q1 q2 q3 hs ⊢
  rw [hs] at h3
  have hold : ∀ k, k < B + 2 → ((wv.alloc (Obj.cells #[.int .i64 a, .int .i64 b] 3)).drew).heap[k]? = wv.heap[k]? := fun k hk => Go.Deep.blk_alloc_lt _ _ _ (by omega)
  have Q := hid (show wv.drew.cell? ⟨B, 0, none⟩ = some (.int .i64 x1) ∧ wv.drew.cell? ⟨B, 1, none⟩ = some (.int .i64 x2) ∧ wv.drew.cell? ⟨B + 1, 0, none⟩ = some (.int .i64 y1) ∧ wv.drew.cell? ⟨B + 1, 1, none⟩ = some (.int .i64 y2) from ⟨q0, q1, q2, q3⟩)
  have QA := hid (show (wv.alloc (Obj.cells #[.int .i64 a, .int .i64 b] 3)).drew.cell? ⟨B, 0, none⟩ = some (.int .i64 x1) ∧ (wv.alloc (Obj.cells #[.int .i64 a, .int .i64 b] 3)).drew.cell? ⟨B, 1, none⟩ = some (.int .i64 x2) ∧ (wv.alloc (Obj.cells #[.int .i64 a, .int .i64 b] 3)).drew.cell? ⟨B + 1, 0, none⟩ = some (.int .i64 y1) ∧ (wv.alloc (Obj.cells #[.int .i64 a, .int .i64 b] 3)).drew.cell? ⟨B + 1, 1, none⟩ = some (.int .i64 y2) from
    ⟨(World.cell?_of_block (a := ⟨B, 0, none⟩) (hold B (by omega))).trans q0, (World.cell?_of_block (a := ⟨B, 1, none⟩) (hold B (by omega))).trans q1, (World.cell?_of_block (a := ⟨B + 1, 0, none⟩) (hold (B + 1) (by omega))).trans q2, (World.cell?_of_block (a := ⟨B + 1, 1, none⟩) (hold (B + 1) (by omega))).trans q3⟩)
  have H3 := hid h3
  clear h3 hc ho ha hb hr hold q0 q1 q2 q3 hB
  go_region_held3 (fun w' => w'.cell? ⟨B, 0, none⟩ = some (.int .i64 x1) ∧ w'.cell? ⟨B, 1, none⟩ = some (.int .i64 x2) ∧ w'.cell? ⟨B + 1, 0, none⟩ = some (.int .i64 y1) ∧ w'.cell? ⟨B + 1, 1, none⟩ = some (.int .i64 y2)) (first | exact Q.out | exact QA.out)
    (first
    | (go_at_call 39; refine (HC.out _ _ _ (by assumption) _).mono ?_; rintro e w' ⟨rfl, rfl⟩)
    | (go_at_call 38; refine H3.out.mono ?_; rintro e w' ⟨rfl, rfl⟩))
  have H0 := hid (show ∃ q os', (wv.alloc (Obj.cells #[.int .i64 a, .int .i64 b] 3)).drew = Go.Sort.grow (W.drewN q) os' from ⟨1, _, by rw [HW2.out, Go.Sort.alloc_eq_grow, Go.Sort.grow_grow]; rfl⟩)
  clear HW2 QA Q H3 HC HA HB
  go_wp2_with fail
  go_ret
  exact ⟨by rw [H.out]; rfl, H0.out⟩
end Go.Proofs.Ythlibdpemocpmaa

/- edit.Far. -/
import Derived.Test.YthdckapielbonaaCommon
namespace Go.Proofs.Ythdckapielbonaa
set_option linter.unusedVariables false
set_option linter.unusedSimpArgs false
open Go.RowKit Go.Deep

attribute [local go_sem] get_bt

/-- The row while column j of line i + 1 is reckoned. -/
def frow (f g : Nat → Nat) (i j : Nat) : Nat → Value := fun k => .int .i64 ((if k ≤ j then far f g (i + 1) k else far f g i k : Nat) : Int)
def fline (f g : Nat → Nat) (i : Nat) : Nat → Value := fun k => .int .i64 (far f g i k : Int)
def fset (k : Nat) : Nat → Value := fun j => if j < k then .int .i64 (j : Int) else .int .i64 0

structure FRow (w wr : World) (N m : Nat) (F : Nat → Value) : Prop where
  since : w.Since N wr
  row : wr.rowIs N 3 (m + 1) F

section
variable {w wr : World} {f g : Nat → Nat} {N m i j k : Nat} {F G : Nat → Value}

theorem FRow.dn (h : FRow w wr N m F) (u : Nat) : FRow w (wr.drewN u) N m F := ⟨⟨h.since.os, h.since.tape, h.since.output, h.since.size, h.since.block⟩, h.row⟩

theorem FRow.put (h : FRow w wr N m F) (u k : Nat) (x : Value) (hG : ∀ j, j < m + 1 → G j = if j = k then x else F j) : FRow w ((wr.drewN u).setCell ⟨N, k, none⟩ x) N m G :=
  ⟨(h.dn u).since.setCell (Nat.le_refl _) _, ((h.dn u).row.set k x).congr fun j hj => (hG j hj).symm⟩

theorem FRow.put0 (h : FRow w wr N m F) (k : Nat) (x : Value) (hG : ∀ j, j < m + 1 → G j = if j = k then x else F j) : FRow w (wr.setCell ⟨N, k, none⟩ x) N m G := h.put 0 k x hG

theorem frow_make (w : World) (m : Nat) : FRow w (w.alloc (.cells (madeCells #[.int .i64 0] (m + 1)) 3)) w.heap.size m (fset 0) :=
  ⟨(World.Since.refl _ _).alloc (Nat.le_refl _) _, (World.rowIs_made w _ (m + 1) 3).congr fun j hj => by unfold fset; rw [if_neg (by omega)]⟩

theorem FRow.set_step (h : FRow w wr N m (fset k)) : FRow w (wr.setCell ⟨N, k, none⟩ (.int .i64 (k : Int))) N m (fset (k + 1)) := h.put0 k _ fun j hj => by
  unfold fset
  by_cases e : j = k
  · subst e; rw [if_pos (by omega), if_pos rfl]
  · rw [if_neg e]
    by_cases h2 : j < k
    · rw [if_pos h2, if_pos (by omega)]
    · rw [if_neg h2, if_neg (by omega)]

theorem FRow.set_done (h : FRow w wr N m (fset (m + 1))) (f g : Nat → Nat) : FRow w wr N m (fline f g 0) :=
  ⟨h.since, h.row.congr fun j hj => by unfold fset fline; rw [if_pos hj, far_zero]⟩

theorem FRow.line_start (h : FRow w wr N m (fline f g i)) (x : Int) (hx : x = (i : Int) + 1) : FRow w (wr.setCell ⟨N, 0, none⟩ (.int .i64 x)) N m (frow f g i 0) := h.put0 0 _ fun j hj => by
  unfold frow fline
  by_cases e : j = 0
  · subst e; rw [if_pos (Nat.le_refl _), if_pos rfl, far_zero', hx]; rfl
  · rw [if_neg (by omega), if_neg e]

theorem FRow.line_step (h : FRow w wr N m (frow f g i j)) (u : Nat) (x : Int) (hx : x = (far f g (i + 1) (j + 1) : Nat)) : FRow w ((wr.drewN u).setCell ⟨N, j + 1, none⟩ (.int .i64 x)) N m (frow f g i (j + 1)) := h.put u (j + 1) _ fun k hk => by
  unfold frow
  by_cases e : k = j + 1
  · subst e; rw [if_pos (Nat.le_refl _), if_pos rfl, hx]
  · rw [if_neg e]
    by_cases h2 : k ≤ j
    · rw [if_pos (by omega), if_pos h2]
    · rw [if_neg (by omega), if_neg h2]

theorem FRow.line_done (h : FRow w wr N m (frow f g i m)) : FRow w wr N m (fline f g (i + 1)) :=
  ⟨h.since, h.row.congr fun j hj => by unfold frow fline; rw [if_pos (by omega)]⟩
end

set_option maxRecDepth 100000 in
set_option maxHeartbeats 2000000 in
theorem far_ok (w : World) (a b : ByteArray) (ha : a.size ≤ 24) (hb : b.size ≤ 24) :
    Calls Try.prog 21 #[.string a, .string b] w fun e w' => e = .returned (.tuple #[.int .i64 (far (bt a) (bt b) a.size b.size), .nilIface]) ∧ Below w.heap.size w w' := by
  obtain ⟨m1, hm1, Hm1⟩ : ∃ m1 : Nat, ((b.size : Int) + 1) = m1 ∧ Hid (m1 = b.size + 1) := ⟨b.size + 1, by omega, rfl⟩
  have hmk2 := run_make_row' (P := Try.prog) 23 3 (.int .i64 0) 8 Try.underlying23 info_int rfl .i64 .i64 m1 (by omega) (by omega)
  have hfl := hid (fun i j (h1 : i ≤ a.size) (h2 : j ≤ b.size) => far_le (f := bt a) (g := bt b) (i + j) i j (Nat.le_refl _))
  go_enter Try.func21, Try.ntmps21
  go_wp2_with (go_at_call 25; refine (long2_ok _ a b ha hb).mono ?_; rintro e w' ⟨rfl, rfl⟩)
  have hB0 : Below w.heap.size w (w.alloc (.cells #[.string a, .string b] 9)) := (Below.refl _ _).alloc (Nat.le_refl _) _
  have hN0 : w.heap.size ≤ (w.alloc (.cells #[.string a, .string b] 9)).heap.size := by simp
  have H0 := hid (by have := frow_make (w.alloc (.cells #[.string a, .string b] 9)) b.size; rw [← Hm1.out, show (w.alloc (.cells #[.string a, .string b] 9)).heap.size = w.heap.size + 1 from by simp] at this; exact this)
  have HF := hid (fun wr F (h : FRow (w.alloc (.cells #[.string a, .string b] 9)) wr (w.heap.size + 1) b.size F) => (show Below w.heap.size w wr from hB0.trans ⟨h.since.os, h.since.tape, h.since.output, h.since.size, fun k hk => h.since.block k (by omega)⟩))
  have h0m : (0 : Int) < m1 := by omega
  clear hB0 hN0 hmk2
  generalize (w.alloc (.cells #[.string a, .string b] 9)) = v at *
  generalize w.heap.size + 1 = N at *
  go_loopw [26] (fun i wr => ∃ k : Nat, k ≤ m1 ∧ i = .int .i64 k ∧ Hid (FRow v wr N b.size (fset k))) (fun i _ => m1 - (intOf i).toNat)
  case atStart => exact ⟨0, by omega, rfl, H0⟩
  case round =>
    clear H0
    obtain ⟨k, hk, rfl, hR⟩ := hrel
    by_cases hlt : k < m1
    · have hlt' : (k : Int) < m1 := by omega
      have g1 := hR.out.row.cell (i := k) (by omega)
      rw [show fset k k = .int .i64 0 from by unfold fset; rw [if_neg (by omega)]] at g1
      have g2 := hR.out.row.frozen k
      have Hn := hid hR.out.set_step
      go_wp2_with fail
      go_roundw
      case rel => exact ⟨k + 1, by omega, by go_num, Hn⟩
      case measure => simp [intOf]; omega
    · have hlt' : ¬ (k : Int) < m1 := by omega
      have hkm : k = b.size + 1 := by omega
      have hR2 := hR.out
      rw [hkm] at hR2
      have HR := hid (hR2.set_done (bt a) (bt b))
      clear hR2 hR hkm
      go_wp2_with fail
      go_loopw [36] (fun i wr => ∃ k : Nat, k ≤ a.size ∧ i = .int .i64 k ∧ Hid (FRow v wr N b.size (fline (bt a) (bt b) k))) (fun i _ => a.size - (intOf i).toNat)
      case atStart => exact ⟨0, by omega, rfl, HR⟩
      case round =>
        clear HR hk hlt hlt'
        obtain ⟨i, hi, rfl, hL⟩ := hrel
        by_cases hlt : i < a.size
        · have g1 := hL.out.row.cell (i := 0) (by omega)
          rw [show fline (bt a) (bt b) i 0 = .int .i64 (i : Int) from by unfold fline; rw [far_zero']] at g1
          have g2 := hL.out.row.frozen 0
          have Hn := hid (hL.out.line_start _ rfl)
          have hi24 : i < 24 := by omega
          have hil : (i : Int) < a.size := by omega
          go_wp2_with fail
          go_loopw [48, 10] (fun j l wr => ∃ q x : Nat, q ≤ b.size ∧ x ≤ 48 ∧ j = .int .i64 q ∧ l = .int .i64 x ∧ Hid (x = far (bt a) (bt b) i q) ∧ Hid (FRow v wr N b.size (frow (bt a) (bt b) i q))) (fun j _ _ => b.size - (intOf j).toNat)
          case atStart => exact ⟨0, i, by omega, by omega, rfl, rfl, (far_zero' _).symm, Hn⟩
          case round =>
            clear Hn g1 g2
            obtain ⟨q, x, hq, hx, rfl, rfl, hxe, hC⟩ := hrel
            by_cases hqm : q < b.size
            · have hqm' : (q : Int) < b.size := by omega
              have hq1 : (q : Int) < m1 := by omega
              have hq2 : (q : Int) + 1 < m1 := by omega
              obtain ⟨y, hy⟩ : ∃ y, y = far (bt a) (bt b) (i + 1) q := ⟨_, rfl⟩
              obtain ⟨z, hz⟩ : ∃ z, z = far (bt a) (bt b) i (q + 1) := ⟨_, rfl⟩
              have hyl : y ≤ 48 := by rw [hy]; have := hfl.out (i + 1) q (by omega) (by omega); omega
              have hzl : z ≤ 48 := by rw [hz]; have := hfl.out i (q + 1) (by omega) (by omega); omega
              have g1 : wr.cell? ⟨N, q, none⟩ = some (.int .i64 (y : Int)) := by
                rw [hC.out.row.cell (show q < b.size + 1 by omega)]; unfold frow; rw [if_pos (Nat.le_refl _), hy]
              have g2 : wr.cell? ⟨N, q + 1, none⟩ = some (.int .i64 (z : Int)) := by
                rw [hC.out.row.cell (show q + 1 < b.size + 1 by omega)]; unfold frow; rw [if_neg (by omega), hz]
              have g3 : wr.frozen? ⟨N, q + 1, none⟩ = false := hC.out.row.frozen _
              have HZ := hid hz
              by_cases he : bt a i = bt b q
              · have h1 : ((bt a i : Int) != bt b q) = false := by simp [he]
                have Hn := hid (fun u => hC.out.line_step u (x : Int) (by rw [far_hit he, ← hxe.out]))
                clear hC he hy hz g1
                go_wp2_with fail
                go_quiet (fail)
                go_wp2_with fail
                go_roundw
                case rel => exact ⟨q + 1, z, by omega, hzl, by go_num, rfl, HZ, hid (Hn.out _)⟩
                case measure => simp [intOf]; omega
              · have h1 : ((bt a i : Int) != bt b q) = true := by simp; omega
                have Hn := hid (fun u (v : Int) (hv : v = (1 + min x (min y z) : Nat)) => hC.out.line_step u v (by rw [hv, far_miss he, ← hxe.out, ← hy, ← hz]))
                clear hC he hy hz
                go_wp2_with fail
                go_quiet (fail)
                go_wp2_with fail
                go_region
                all_goals
                  trace_state
                  go_wp2_with fail
                  go_roundw
                  case rel => exact ⟨q + 1, z, by omega, hzl, by go_num, rfl, HZ, hid (Hn.out _ _ (by split <;> (try split) <;> omega))⟩
                  case measure => simp [intOf]; omega
            · have hqm' : ¬ (q : Int) < b.size := by omega
              have hqe : q = b.size := by omega
              have hC2 := hC.out
              rw [hqe] at hC2
              have Hn := hid hC2.line_done
              clear hC2 hC hqe hxe
              go_wp2_with fail
              go_roundw
              case rel => exact ⟨i + 1, by omega, by go_num, Hn⟩
              case measure => simp [intOf]; omega
        · have hlt' : ¬ (i : Int) < a.size := by omega
          have hie : i = a.size := by omega
          have hL2 := hL.out
          rw [hie] at hL2
          have g1 := hL2.row.cell (i := b.size) (by omega)
          unfold fline at g1
          have HB := HF.out _ _ hL2
          have hbm : (b.size : Int) < m1 := by omega
          clear hL2 hL hie
          go_wp2_with fail
          go_ret2
          exact ⟨rfl, HB⟩

set_option maxHeartbeats 400000 in
theorem far_bad (w : World) (a b : ByteArray) (h : 24 < a.size ∨ 24 < b.size) (ha : a.size ≤ maxLen) (hb : b.size ≤ maxLen) :
    Calls Try.prog 21 #[.string a, .string b] w fun e w' => e = .returned (.tuple #[.int .i64 0, errv 4]) ∧ Below w.heap.size w w' := by
  have H := hid h
  clear h
  go_enter Try.func21, Try.ntmps21
  go_wp2_with (go_at_call 25; refine (long2_bad _ a b H.out ha hb).mono ?_; rintro e w' ⟨rfl, rfl⟩)
  go_ret2
  exact ⟨rfl, (Below.refl _ _).alloc (Nat.le_refl _) _⟩
end Go.Proofs.Ythdckapielbonaa

/- common.table, common.Long. The shape of the relations is the guide's worked text on a matrix. -/
import Derived.Test.YthdckapielbonaaLong2
import Derived.Test.YthdckapielbonaaFarPlain
import Derived.StillTailTactics
import Derived.Deep.OwnRows
namespace Go.Proofs.Ythdckapielbonaa
set_option linter.unusedVariables false
set_option linter.unusedSimpArgs false
open Go.RowKit Go.Deep

attribute [local go_sem] get_bt

theorem info_row : (Try.prog.info? 23).map (fun i => (i.zero, i.size, i.bytes)) = some (some (.slice none 0 0), 1, 24) := by kernel_rfl

/-- The row of rows, when c of them are made, from the last one on. -/
def ctop (N n m c : Nat) : Nat → Value := fun j => if n < j + c then .slice (some ⟨N + 1 + (n - j), 0, none⟩) (m + 1) (m + 1) else .slice none 0 0

/-- Row d of the table: what the last d bytes and the last m - j bytes have in common. -/
def crow (f g : Nat → Nat) (n m d : Nat) : Nat → Value := fun j => .int .i64 (lcs f g n m d (m - j) : Int)
/-- The same, filled from place k on. -/
def crowTo (f g : Nat → Nat) (n m d k : Nat) : Nat → Value := fun j => if k ≤ j then .int .i64 (lcs f g n m d (m - j) : Int) else .int .i64 0

structure COut (w wr : World) (f g : Nat → Nat) (n m c : Nat) : Prop where
  since : w.Since w.heap.size wr
  size : wr.heap.size = w.heap.size + 1 + c
  top : wr.rowIs w.heap.size 23 (n + 1) (ctop w.heap.size n m c)
  done : ∀ d, d < c → wr.rowIs (w.heap.size + 1 + d) 3 (m + 1) (crow f g n m d)

structure CIn (w wr : World) (f g : Nat → Nat) (n m c k : Nat) : Prop where
  since : w.Since w.heap.size wr
  size : wr.heap.size = w.heap.size + 1 + c + 1
  top : wr.rowIs w.heap.size 23 (n + 1) (ctop w.heap.size n m (c + 1))
  done : ∀ d, d < c → wr.rowIs (w.heap.size + 1 + d) 3 (m + 1) (crow f g n m d)
  cur : wr.rowIs (w.heap.size + 1 + c) 3 (m + 1) (crowTo f g n m c k)

section
variable {w wr : World} {f g : Nat → Nat} {n m c k : Nat}

theorem cout_start (w : World) (f g : Nat → Nat) (n m : Nat) : COut w (w.alloc (.cells (madeCells #[.slice none 0 0] (n + 1)) 23)) f g n m 0 :=
  ⟨(World.Since.refl _ _).alloc (Nat.le_refl _) _, by simp, (World.rowIs_made w _ (n + 1) 23).congr (fun j hj => by unfold ctop; rw [if_neg (by omega)]), fun j hj => absurd hj (Nat.not_lt_zero _)⟩

theorem cin_start (h : COut w wr f g n m c) (hc : c ≤ n) :
    CIn w ((wr.alloc (.cells (madeCells #[.int .i64 0] (m + 1)) 3)).setCell ⟨w.heap.size, n - c, none⟩ (.slice (some ⟨w.heap.size + 1 + c, 0, none⟩) (m + 1) (m + 1))) f g n m c m := by
  have hnew := World.rowIs_made wr (.int .i64 0) (m + 1) 3
  rw [h.size] at hnew
  refine ⟨(h.since.alloc (by rw [h.size]; omega) _).setCell (Nat.le_refl _) _, by simp [h.size], ((h.top.alloc _).set (n - c) _).congr (fun j hj => ?_), fun j hj => ((h.done j hj).alloc _).setOther (by show w.heap.size + 1 + j ≠ w.heap.size; omega) _,
    (hnew.setOther (by show w.heap.size + 1 + c ≠ w.heap.size; omega) _).congr (fun i hi => ?_)⟩
  · unfold ctop
    by_cases e : j = n - c
    · rw [if_pos e, if_pos (by omega), show n - j = c from by omega]
    · rw [if_neg e]
      by_cases h2 : n < j + c
      · rw [if_pos h2, if_pos (by omega)]
      · rw [if_neg h2, if_neg (by omega)]
  · unfold crowTo
    by_cases e : m ≤ i
    · rw [if_pos e, show m - i = 0 from by omega, lcs_zero']; rfl
    · rw [if_neg e]

/-- The last row is as made. -/
theorem cin_last (h : CIn w wr f g n m 0 m) : COut w wr f g n m 1 :=
  ⟨h.since, h.size, h.top, fun d hd => by
    obtain rfl : d = 0 := by omega
    refine h.cur.congr fun j hj => ?_
    unfold crowTo crow
    split
    · rfl
    · rw [lcs_zero]; rfl⟩

theorem cin_done (h : CIn w wr f g n m c 0) : COut w wr f g n m (c + 1) :=
  ⟨h.since, by rw [h.size]; omega, h.top, fun d hd => by
    by_cases e : d = c
    · subst e
      exact h.cur.congr fun j hj => by unfold crowTo crow; rw [if_pos (Nat.zero_le _)]
    · exact h.done d (by omega)⟩

theorem cin_dn (h : CIn w wr f g n m c k) (u : Nat) : CIn w (wr.drewN u) f g n m c k :=
  ⟨⟨h.since.os, h.since.tape, h.since.output, h.since.size, h.since.block⟩, h.size, h.top, h.done, h.cur⟩

theorem cin_step (h0 : CIn w wr f g n m c (k + 1)) (hk : k < m) (u : Nat) (x : Int) (hx : x = (lcs f g n m c (m - k) : Nat)) :
    CIn w ((wr.drewN u).setCell ⟨w.heap.size + 1 + c, k, none⟩ (.int .i64 x)) f g n m c k := by
  have h := cin_dn h0 u
  clear h0
  refine ⟨h.since.setCell (by show w.heap.size ≤ w.heap.size + 1 + c; omega) _, by simp [h.size]; exact h.size, h.top.setOther (by show w.heap.size ≠ w.heap.size + 1 + c; omega) _,
    fun j hj => (h.done j hj).setOther (by show w.heap.size + 1 + j ≠ w.heap.size + 1 + c; omega) _, (h.cur.set k _).congr (fun i hi => ?_)⟩
  unfold crowTo
  by_cases e : i = k
  · subst e; rw [if_pos rfl, if_pos (Nat.le_refl _), hx]
  · rw [if_neg e]
    by_cases h2 : k + 1 ≤ i
    · rw [if_pos h2, if_pos (by omega)]
    · rw [if_neg h2, if_neg (by omega)]
end

set_option maxRecDepth 100000 in
set_option maxHeartbeats 2000000 in
theorem table_any (w : World) (a b : ByteArray) (ha : a.size ≤ 24) (hb : b.size ≤ 24) :
    Calls Try.prog 29 #[.string a, .string b] w fun e w' => e = .returned (.slice (some ⟨w.heap.size, 0, none⟩) (a.size + 1) (a.size + 1)) ∧ COut w w' (bt a) (bt b) a.size b.size (a.size + 1) := by
  obtain ⟨n1, hn1, Hn1⟩ : ∃ n1 : Nat, ((a.size : Int) + 1) = n1 ∧ Hid (n1 = a.size + 1) := ⟨a.size + 1, by omega, rfl⟩
  obtain ⟨m1, hm1, Hm1⟩ : ∃ m1 : Nat, ((b.size : Int) + 1) = m1 ∧ Hid (m1 = b.size + 1) := ⟨b.size + 1, by omega, rfl⟩
  have hmk := run_make_row' (P := Try.prog) 51 23 (.slice none 0 0) 24 Try.underlying51 info_row rfl .i64 .i64 n1 (by omega) (by omega)
  have hmk2 := run_make_row' (P := Try.prog) 23 3 (.int .i64 0) 8 Try.underlying23 info_int rfl .i64 .i64 m1 (by omega) (by omega)
  have H0 := hid (by have := cout_start w (bt a) (bt b) a.size b.size; rw [← Hn1.out] at this; exact this)
  go_enter Try.func29, Try.ntmps29
  go_wp2_with fail
  go_loopw [6] (fun i wr => ∃ c r : Nat, r + c = a.size + 1 ∧ i = .int .i64 ((r : Int) - 1) ∧ Hid (COut w wr (bt a) (bt b) a.size b.size c)) (fun i _ => (intOf i + 1).toNat)
  case atStart => exact ⟨0, a.size + 1, by omega, by go_num, H0⟩
  case round =>
    clear H0 hmk
    obtain ⟨c, r, hrc, rfl, hO⟩ := hrel
    have hsz : wr.heap.size = w.heap.size + 1 + c := hO.out.size
    rcases r with _ | P
    · have hneg : decide ((0 : Int) ≤ ((0 : Nat) : Int) - 1) = false := by decide
      have hc : c = a.size + 1 := by omega
      subst hc
      go_wp2_with fail
      go_ret
      exact ⟨by rw [← Hn1.out]; rfl, hO.out⟩
    · have hcn : c ≤ a.size := by omega
      have hP : ((P + 1 : Nat) : Int) - 1 = P := by omega
      rw [hP]
      have hPn : P = a.size - c := by omega
      have hPlt : P < a.size + 1 := by omega
      have hPn1 : (P : Int) < n1 := by omega
      have hst1 : ∀ o, (wr.alloc o).cell? ⟨w.heap.size, P, none⟩ = some (ctop w.heap.size a.size b.size c P) := fun o => (hO.out.top.alloc o).cell hPlt
      have hst2 : ∀ o, (wr.alloc o).frozen? ⟨w.heap.size, P, none⟩ = false := fun o => (hO.out.top.alloc o).frozen P
      have HI := hid (by have := cin_start hO.out hcn; rw [← Hm1.out, ← hPn] at this; exact this)
      have HO := hid hO.out
      clear hO
      rcases c with _ | d
      · have hPa : P = a.size := by omega
        have he : ((P : Int) == (a.size : Int)) = true := by rw [beq_iff_eq]; omega
        have Hn := hid (by have e := cin_last HI.out; rw [Nat.add_zero, World.setCell_alloc_past _ _ _ _ (show w.heap.size < wr.heap.size by omega)] at e; exact e)
        have hrc' : P + 1 = a.size + 1 := by omega
        have Hrc := hid hrc'
        clear HI hPn hPa hrc hrc' hcn
        go_wp2_with fail
        go_roundw
        case rel => exact ⟨1, P, Hrc.out, rfl, Hn⟩
        case measure => simp [intOf]
      · have he : ((P : Int) == (a.size : Int)) = false := by rw [beq_eq_false_iff_ne]; omega
        have hPa : P < a.size := by omega
        have Hr := hid (fun wr (h : CIn w wr (bt a) (bt b) a.size b.size (d + 1) 0) => cin_done h)
        have HPn := hid hPn
        clear hPn
        go_wp2_with fail
        go_loopw [7] (fun j wr => ∃ r : Nat, r ≤ b.size ∧ j = .int .i64 ((r : Int) - 1) ∧ Hid (CIn w wr (bt a) (bt b) a.size b.size (d + 1) r)) (fun j _ => (intOf j + 1).toNat)
        case atStart => exact ⟨b.size, by omega, by go_num, HI⟩
        case round =>
          clear HI hmk2 hst1 hst2 hsz HO
          obtain ⟨r, hr, rfl, hI⟩ := hrel
          rcases r with _ | Q
          · have hneg : decide ((0 : Int) ≤ ((0 : Nat) : Int) - 1) = false := by decide
            have Hn := hid (Hr.out _ hI.out)
            go_wp2_with fail
            go_roundw
            case rel => exact ⟨d + 1 + 1, P, by omega, rfl, Hn⟩
            case measure => simp [intOf]
          · have hQ : ((Q + 1 : Nat) : Int) - 1 = Q := by omega
            rw [hQ]
            have hQb : Q < b.size := by omega
            obtain ⟨B0, hB0⟩ : ∃ B0, B0 = w.heap.size + 1 + d := ⟨_, rfl⟩
            obtain ⟨B1, hB1⟩ : ∃ B1, B1 = w.heap.size + 1 + (d + 1) := ⟨_, rfl⟩
            have g1 : wr.cell? ⟨w.heap.size, P, none⟩ = some (.slice (some ⟨B1, 0, none⟩) m1 m1) := by
              rw [hI.out.top.cell hPlt]
              unfold ctop
              rw [if_pos (by omega), hB1, Hm1.out, show a.size - P = d + 1 from by omega]
            have g2 : wr.cell? ⟨w.heap.size, P + 1, none⟩ = some (.slice (some ⟨B0, 0, none⟩) m1 m1) := by
              rw [hI.out.top.cell (by omega)]
              unfold ctop
              rw [if_pos (by omega), hB0, Hm1.out, show a.size - (P + 1) = d from by omega]
            obtain ⟨x, hx⟩ : ∃ x, x = lcs (bt a) (bt b) a.size b.size d (b.size - (Q + 1)) := ⟨_, rfl⟩
            obtain ⟨y, hy⟩ : ∃ y, y = lcs (bt a) (bt b) a.size b.size d (b.size - Q) := ⟨_, rfl⟩
            obtain ⟨z, hz⟩ : ∃ z, z = lcs (bt a) (bt b) a.size b.size (d + 1) (b.size - (Q + 1)) := ⟨_, rfl⟩
            have g3 : wr.cell? ⟨B0, Q + 1, none⟩ = some (.int .i64 (x : Int)) := by
              rw [hB0, (hI.out.done d (by omega)).cell (show Q + 1 < b.size + 1 by omega)]
              unfold crow; rw [hx]
            have g4 : wr.cell? ⟨B0, Q, none⟩ = some (.int .i64 (y : Int)) := by
              rw [hB0, (hI.out.done d (by omega)).cell (show Q < b.size + 1 by omega)]
              unfold crow; rw [hy]
            have g5 : wr.cell? ⟨B1, Q + 1, none⟩ = some (.int .i64 (z : Int)) := by
              rw [hB1, hI.out.cur.cell (show Q + 1 < b.size + 1 by omega)]
              unfold crowTo; rw [if_pos (Nat.le_refl _), hz]
            have g6 : wr.cell? ⟨B1, Q, none⟩ = some (.int .i64 0) := by
              rw [hB1, hI.out.cur.cell (show Q < b.size + 1 by omega)]
              unfold crowTo; rw [if_neg (by omega)]
            have g7 : wr.frozen? ⟨B1, Q, none⟩ = false := by rw [hB1]; exact hI.out.cur.frozen Q
            have hxl : x ≤ 24 := by rw [hx]; have := (lcs_le (f := bt a) (g := bt b) (n := a.size) (m := b.size) (p := d) (q := b.size - (Q + 1))).2; omega
            have hyl : y ≤ 24 := by rw [hy]; have := (lcs_le (f := bt a) (g := bt b) (n := a.size) (m := b.size) (p := d) (q := b.size - Q)).2; omega
            have hzl : z ≤ 24 := by rw [hz]; have := (lcs_le (f := bt a) (g := bt b) (n := a.size) (m := b.size) (p := d + 1) (q := b.size - (Q + 1))).2; omega
            have hPm : (P : Int) < n1 := by omega
            have hP1 : (P : Int) + 1 < n1 := by omega
            have hQm : (Q : Int) < m1 := by omega
            have hQ1 : (Q : Int) + 1 < m1 := by omega
            have eQ : b.size - Q = b.size - (Q + 1) + 1 := by omega
            by_cases he : bt a P = bt b Q
            · have h1 : ((bt a P : Int) == bt b Q) = true := by rw [beq_iff_eq, he]
              have Hn := hid (fun u v (hv : v = 1 + (x : Int)) => cin_step hI.out hQb u v (by
                rw [hv, hx, eQ, lcs_hit (by rw [show a.size - (d + 1) = P from by omega, show b.size - (b.size - (Q + 1) + 1) = Q from by omega]; exact he)]
                omega))
              rw [← hB1] at Hn
              clear hI he eQ hx hy hz hB0 hB1 g4 g5
              go_wp2_with fail
              go_quiet (fail)
              go_wp2_with fail
              go_region
              all_goals
                go_wp2_with fail
                go_roundw
                case rel => exact ⟨Q, by omega, rfl, hid (Hn.out _ _ rfl)⟩
                case measure => simp [intOf]
            · have h1 : ((bt a P : Int) == bt b Q) = false := by rw [beq_eq_false_iff_ne]; omega
              have Hn := hid (fun u v (hv : v = if y < z then (z : Int) else y) => cin_step hI.out hQb u v (by
                rw [eQ, lcs_miss (by rw [show a.size - (d + 1) = P from by omega, show b.size - (b.size - (Q + 1) + 1) = Q from by omega]; exact he), ← eQ, ← hy, ← hz, hv]
                split <;> omega))
              rw [← hB1] at Hn
              clear hI he eQ hx hy hz hB0 hB1 g3
              go_wp2_with fail
              go_quiet (fail)
              go_wp2_with fail
              go_region
              all_goals
                go_wp2_with fail
                go_roundw
                case rel => exact ⟨Q, by omega, rfl, hid (Hn.out _ _ rfl)⟩
                case measure => simp [intOf]

set_option maxHeartbeats 1000000 in
theorem commonLong_ok (w : World) (a b : ByteArray) (ha : a.size ≤ 24) (hb : b.size ≤ 24) :
    Calls Try.prog 20 #[.string a, .string b] w fun e w' => e = .returned (.tuple #[.int .i64 (lcs (bt a) (bt b) a.size b.size a.size b.size), .nilIface]) ∧ Below w.heap.size w w' := by
  have Ht := hid (fun w => table_any w a b ha hb)
  go_enter Try.func20, Try.ntmps20
  go_wp2_with (go_at_call 25; refine (long2_ok _ a b ha hb).mono ?_; rintro e w' ⟨rfl, rfl⟩)
  refine (Ht.out _).mono ?_
  rintro e w2 ⟨rfl, hT⟩
  have g1 := hT.top.cell (i := 0) (by omega)
  have g2 := (hT.done a.size (by omega)).cell (i := 0) (by omega)
  unfold ctop at g1
  rw [if_pos (by omega), Nat.sub_zero] at g1
  unfold crow at g2
  rw [Nat.sub_zero] at g2
  have hS := hT.since
  have hB : Below w.heap.size w w2 := ((Below.refl _ _).alloc (Nat.le_refl _) _).trans ⟨hS.os, hS.tape, hS.output, hS.size, fun k hk => hS.block k (by simp; omega)⟩
  have h0 : (0 : Int) < ((a.size + 1 : Nat) : Int) := by omega
  have h0' : (0 : Int) < ((b.size + 1 : Nat) : Int) := by omega
  clear hT hS
  obtain ⟨N, hN⟩ : ∃ N, (w.alloc (.cells #[.string a, .string b] 9)).heap.size = N := ⟨_, rfl⟩
  rw [hN] at g1 g2 ⊢
  clear hN
  go_wp2_with fail
  go_ret2
  exact ⟨rfl, hB⟩

set_option maxHeartbeats 400000 in
theorem commonLong_bad (w : World) (a b : ByteArray) (h : 24 < a.size ∨ 24 < b.size) (ha : a.size ≤ maxLen) (hb : b.size ≤ maxLen) :
    Calls Try.prog 20 #[.string a, .string b] w fun e w' => e = .returned (.tuple #[.int .i64 0, errv 4]) ∧ Below w.heap.size w w' := by
  have H := hid h
  clear h
  go_enter Try.func20, Try.ntmps20
  go_wp2_with (go_at_call 25; refine (long2_bad _ a b H.out ha hb).mono ?_; rintro e w' ⟨rfl, rfl⟩)
  go_ret2
  exact ⟨rfl, (Below.refl _ _).alloc (Nat.le_refl _) _⟩
end Go.Proofs.Ythdckapielbonaa

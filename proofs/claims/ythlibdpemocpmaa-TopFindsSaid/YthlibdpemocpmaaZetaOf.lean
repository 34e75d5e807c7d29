/- zeta.Of: for a text of at most 24 bytes how far each end goes with the beginning; else nil and ErrFull. -/
import Derived.Test.YthlibdpemocpmaaEdgesOf
import Derived.Test.YthlibdpemocpmaaZetaPlain
import Derived.Deep.LoopGhost
namespace Go.Proofs.Ythlibdpemocpmaa
set_option linter.unusedVariables false
set_option linter.unusedSimpArgs false
open Go.RowKit

attribute [local go_sem] get_bt

set_option maxHeartbeats 400000 in
theorem zetaOf_bad (w : World) (s : ByteArray) (hs : 24 < s.size) (hm : s.size ≤ maxLen) :
    Calls Try.prog 28 #[.string s] w fun e w' => e = .returned (.tuple #[.slice none 0 0, errv 4]) ∧ Below w.heap.size w w' := by
  go_enter Try.func28, Try.ntmps28
  go_wp2_with (go_at_call 33; refine (long1_bad _ s hs hm _ _ (by simp)).mono ?_; rintro e w' ⟨rfl, rfl⟩)
  go_ret2
  exact ⟨rfl, (Below.refl _ _).alloc (Nat.le_refl _) _⟩

/-- What the loop over the places keeps. -/
def ZRel (w : World) (g : Nat) (s : ByteArray) (i l r : Nat) (wr : World) : Prop :=
  Own wr g (.slice (some ⟨g, 0, none⟩) s.size s.size) (zTo (bt s) s.size i) ∧ Below w.heap.size w wr ∧ (0 < i → Win (bt s) s.size i l r) ∧ (i = 0 → l = 0 ∧ r = 0)

/-- What the inner loop keeps: m bytes at most are still to come. -/
def ZIn (w : World) (g : Nat) (s : ByteArray) (k v : Nat) (wr : World) : Prop :=
  (∀ j, j < v → bt s j = bt s (k + j)) ∧ Own wr g (.slice (some ⟨g, 0, none⟩) s.size s.size) ((zTo (bt s) s.size k).set k (v : Int)) ∧ Below w.heap.size w wr

theorem zin_cell {w wr : World} {g k v : Nat} {s : ByteArray} (h : ZIn w g s k v wr) (hk : k < s.size) : wr.cell? ⟨g, k, none⟩ = some (.int .i64 v) ∧ wr.frozen? ⟨g, k, none⟩ = false :=
  ⟨h.2.1.cellAt (by simp [hk]), h.2.1.frozenAt _⟩

theorem zin_next {w wr : World} {g k v : Nat} {s : ByteArray} (HG : Hid (w.heap.size + 1 = g)) (h : ZIn w g s k v wr) (he : bt s v = bt s (k + v)) (m : Nat) (x : Int) (hx : x = ((v + 1 : Nat) : Int)) : ZIn w g s k (v + 1) ((wr.drewN m).setCell ⟨g, k, none⟩ (.int .i64 x)) := by
  subst hx
  have := HG.out
  refine ⟨fun j hj => ?_, ?_, ?_⟩
  · by_cases e : j = v
    · rw [e]; exact he
    · exact h.1 j (by omega)
  · have := (h.2.1.drewN m).set k ((v + 1 : Nat) : Int)
    rwa [List.set_set] at this
  · exact (below_dn h.2.2 m).setCell (p := ⟨g, k, none⟩) (by simp; omega) _

theorem zin_end {w wr : World} {g k v a b : Nat} {s : ByteArray} (h : ZIn w g s k v wr) (hlt : k < s.size) (h0 : 0 < k) (hz : zf (bt s) s.size k = v) (hw : Hid (Win (bt s) s.size k a b)) (m : Nat) :
    ZRel w g s (k + 1) a b (wr.drewN m) ∧ ZRel w g s (k + 1) k (k + v) (wr.drewN m) := by
  have h1 : Own (wr.drewN m) g (.slice (some ⟨g, 0, none⟩) s.size s.size) (zTo (bt s) s.size (k + 1)) := by
    rw [← zTo_set _ _ _ hlt, hz]; exact h.2.1
  refine ⟨⟨h1, below_dn h.2.2 m, fun _ => win_next hw.out, fun h => by omega⟩, ⟨h1, below_dn h.2.2 m, fun _ => ?_, fun h => by omega⟩⟩
  have := win_new (f := bt s) (n := s.size) h0 (Nat.le_of_lt hlt)
  rwa [hz] at this

theorem zin_start0 {w wr : World} {g k : Nat} {s : ByteArray} (hk : k < s.size) (ho : Own wr g (.slice (some ⟨g, 0, none⟩) s.size s.size) (zTo (bt s) s.size k)) (hb : Below w.heap.size w wr) : ZIn w g s k 0 wr := by
  refine ⟨fun j hj => by omega, ?_, hb⟩
  have e : (zTo (bt s) s.size k).set k ((0 : Nat) : Int) = zTo (bt s) s.size k := by
    have := List.getElem?_eq_some_iff.1 (zTo_get0 (bt s) s.size k hk)
    obtain ⟨h1, h2⟩ := this
    have h3 : ((0 : Nat) : Int) = (zTo (bt s) s.size k)[k] := h2.symm
    rw [h3, List.set_getElem_self]
  rw [e]; exact ho

theorem zin_start {w wr : World} {g k a b v : Nat} {s : ByteArray} (HG : Hid (w.heap.size + 1 = g)) (hk : k < s.size) (ho : Own wr g (.slice (some ⟨g, 0, none⟩) s.size s.size) (zTo (bt s) s.size k)) (hb : Below w.heap.size w wr)
    (hw : Hid (Win (bt s) s.size k a b)) (hr : k < b) (hv : v ≤ b - k) (hz : v ≤ zf (bt s) s.size (k - a)) (x : Int) (hx : x = (v : Int)) :
    ZIn w g s k v (wr.setCell ⟨g, k, none⟩ (.int .i64 x)) := by
  subst hx
  have := HG.out
  exact ⟨(win_min hw.out hr v hv hz).2, ho.set k _, hb.setCell (p := ⟨g, k, none⟩) (by simp; omega) _⟩

theorem z_first {w wr : World} {g : Nat} {s : ByteArray} (HG : Hid (w.heap.size + 1 = g)) (hk : 0 < s.size) (ho : Own wr g (.slice (some ⟨g, 0, none⟩) s.size s.size) (zTo (bt s) s.size 0)) (hb : Below w.heap.size w wr) :
    ZRel w g s 1 0 0 (wr.setCell ⟨g, 0, none⟩ (.int .i64 s.size)) := by
  have := HG.out
  refine ⟨?_, hb.setCell (p := ⟨g, 0, none⟩) (by simp; omega) _, fun _ => win_start _ _, fun h => by omega⟩
  have h1 := zTo_set (bt s) s.size 0 hk
  rw [zf_zero] at h1
  rw [← h1]
  exact ho.set 0 _

set_option maxRecDepth 100000 in
set_option maxHeartbeats 1000000 in
theorem zetaOf_ok (w : World) (s : ByteArray) (hs : s.size ≤ 24) :
    Calls Try.prog 28 #[.string s] w (RetInts w (zOf (bt s) s.size)) := by
  go_enter Try.func28, Try.ntmps28
  go_wp2_with (first
    | (go_at_call 33; refine (long1_ok _ s hs _ _ (by simp)).mono ?_; rintro e w' ⟨rfl, rfl⟩)
    | (at_make; refine wp_make_int _ rfl _ _ rfl (w.heap.size + 1) s.size (w.heap.size + 1) rfl rfl (by omega) (by simp) (by simp) ?_; intro w1 hown hg hsz))
  have hb0 : Below w.heap.size w w1 := ((Below.refl _ _).alloc (Nat.le_refl _) _).trans ((Below.refl _ _).grown hg (by simp) (fun k hk => by cases hk))
  rw [zTo_zero (bt s)] at hown
  clear hg
  obtain ⟨g, hG, HG⟩ : ∃ g, w.heap.size + 1 = g ∧ Hid (w.heap.size + 1 = g) := ⟨_, rfl, rfl⟩
  rw [hG] at hown hsz
  rw [hG]
  clear hG
  go_loopw [6, 7, 20] (fun l r i wr => ∃ a b k : Nat, k ≤ s.size ∧ a ≤ 24 ∧ b ≤ 24 ∧ i = .int .i64 k ∧ l = .int .i64 a ∧ r = .int .i64 b ∧ Hid (ZRel w g s k a b wr)) (fun _ _ i _ => s.size - (intOf i).toNat)
  case atStart => exact ⟨0, 0, 0, Nat.zero_le _, by omega, by omega, rfl, rfl, rfl, hown, hb0, fun h => by omega, fun _ => ⟨rfl, rfl⟩⟩
  case round =>
    obtain ⟨a, b, k, hk, ha, hb, rfl, rfl, rfl, hZ⟩ := hrel
    by_cases hlt : k < s.size
    · obtain ⟨ho, hbe, hwin, h00⟩ := id hZ.out
      have hwin' := hid hwin
      have h00' := hid h00
      clear hwin h00
      have qc : wr.cell? ⟨g, k, none⟩ = some (.int .i64 0) := ho.cellAt (zTo_get0 (bt s) s.size k hlt)
      have qf : wr.frozen? ⟨g, k, none⟩ = false := ho.frozenAt _
      by_cases h0 : k = 0
      · have e0 : ((k : Int) == 0) = true := by simp [h0]
        have h0' := hid h0
        have qc0 : wr.cell? ⟨g, 0, none⟩ = some (.int .i64 0) := by rw [← h0]; exact qc
        have qf0 : wr.frozen? ⟨g, 0, none⟩ = false := ho.frozenAt _
        have hpos : (0 : Int) < s.size := by omega
        clear h0 qc qf
        go_wp2
        go_roundw
        case rel =>
          have hk0 := h0'.out
          subst hk0
          have := h00'.out rfl
          obtain ⟨rfl, rfl⟩ := this
          exact ⟨0, 0, 1, by omega, by omega, by omega, by simp, rfl, rfl, hid (z_first HG (by omega) ho hbe)⟩
        case measure => simp [intOf]; omega
      · have e0 : ((k : Int) == 0) = false := by simp; omega
        have hw := hwin'.out (by omega)
        have Hw := hid hw
        have h6 := hw.2.1
        have hzl := zf_le (bt s) s.size (k - a)
        have hcase : (k < b ∧ a < k ∧ (zf (bt s) s.size (k - a) : Int) ≤ (b : Int) - k) ∨ (k < b ∧ a < k ∧ (b : Int) - k < (zf (bt s) s.size (k - a) : Int)) ∨ ¬ k < b := by
          rcases Nat.lt_or_ge k b with h | h
          · have := hw.2.2.1 h
            by_cases h' : zf (bt s) s.size (k - a) ≤ b - k
            · exact .inl ⟨h, by omega, by omega⟩
            · exact .inr (.inl ⟨h, by omega, by omega⟩)
          · exact .inr (.inr (by omega))
        have hin : Hid (∀ x v, (k < b ∧ v ≤ b - k ∧ v ≤ zf (bt s) s.size (k - a) ∧ x = (v : Int)) → ZIn w g s k v (wr.setCell ⟨g, k, none⟩ (.int .i64 x))) :=
          hid fun x v h => zin_start HG hlt ho hbe Hw h.1 h.2.1 h.2.2.1 x h.2.2.2
        have hin0 := hid (zin_start0 (w := w) hlt ho hbe)
        have q1 : k < b → wr.cell? ⟨g, k - a, none⟩ = some (.int .i64 (zf (bt s) s.size (k - a))) := fun h => by
          have := hw.2.2.1 h
          exact ho.cellAt (zTo_get (bt s) s.size k (k - a) (by omega) (by omega))
        clear hw
        generalize zf (bt s) s.size (k - a) = z at hcase hin q1 hzl
        rcases hcase with ⟨hkb, hak, hc⟩ | ⟨hkb, hak, hc⟩ | hkb
        all_goals go_wp2
        all_goals
          go_loopg [75] s.size (fun m _ wr' => ∃ v : Nat, k + v ≤ s.size ∧ s.size ≤ m + v ∧ Hid (ZIn w g s k v wr'))
          case atStart =>
            first
              | exact ⟨0, by omega, by omega, hin0⟩
              | exact ⟨z, by omega, by omega, hid (hin.out _ _ ⟨hkb, by omega, by omega, rfl⟩)⟩
              | exact ⟨b - k, by omega, by omega, hid (hin.out _ _ ⟨hkb, by omega, by omega, by omega⟩)⟩
          case round =>
            obtain ⟨v, hv, hm, hZI⟩ := hrel
            have qv := (zin_cell hZI.out hlt).1
            have fv := (zin_cell hZI.out hlt).2
            by_cases hmore : k + v < s.size ∧ bt s v = bt s (k + v)
            · obtain ⟨hm1, hm2⟩ := hmore
              have Hnx := hid (fun x hx m => zin_next HG hZI.out hm2 m x hx)
              have e1 : ((bt s v : Int) == bt s (k + v)) = true := by simp [hm2]
              have hm3 : (k : Int) + v < s.size := by omega
              have hm4 : v < s.size := by omega
              clear hm2
              go_wp2
              go_quiet (fail)
              go_wp2
              go_roundg (gk - 1)
              case measure => omega
              case rel => exact ⟨v + 1, by omega, by omega, hid (Hnx.out _ (by omega) _)⟩
            · have hzk : zf (bt s) s.size k = v := zf_eq hv hZI.out.1 (fun h he => hmore ⟨h, he⟩)
              have Hend := hid (fun m => zin_end hZI.out hlt (by omega) hzk Hw m)
              have hdec : (k + v < s.size ∧ ((bt s v : Int) == bt s (k + v)) = false) ∨ ¬ k + v < s.size := by
                rcases Nat.lt_or_ge (k + v) s.size with h | h
                · refine .inl ⟨h, ?_⟩
                  have : ¬ bt s v = bt s (k + v) := fun he => hmore ⟨h, he⟩
                  simp; omega
                · exact .inr (by omega)
              clear hzk hmore
              by_cases hbig : b < k + v
              · rcases hdec with ⟨hm1, hm2⟩ | hm1
                · have hm4 : v < s.size := by omega
                  have hm3 : (k : Int) + v < s.size := by omega
                  go_wp2
                  go_quiet (fail)
                  go_wp2
                  go_quiet (fail)
                  go_wp2
                  all_goals
                    go_roundw
                    case rel => exact ⟨k, k + v, k + 1, by omega, by omega, by omega, by go_num, rfl, by go_num, hid (Hend.out _).2⟩
                    case measure => simp [intOf]; omega
                · have hm3 : ¬ (k : Int) + v < s.size := by omega
                  have hm5 : decide ((k : Int) + v < s.size) = false := by simp; omega
                  go_wp2
                  go_quiet (fail)
                  go_wp2
                  go_quiet (fail)
                  go_wp2
                  all_goals
                    go_roundw
                    case rel => exact ⟨k, k + v, k + 1, by omega, by omega, by omega, by go_num, rfl, by go_num, hid (Hend.out _).2⟩
                    case measure => simp [intOf]; omega
              · rcases hdec with ⟨hm1, hm2⟩ | hm1
                · have hm4 : v < s.size := by omega
                  have hm3 : (k : Int) + v < s.size := by omega
                  go_wp2
                  go_quiet (fail)
                  go_wp2
                  all_goals
                    go_roundw
                    case rel => exact ⟨a, b, k + 1, by omega, by omega, by omega, by go_num, rfl, rfl, hid (Hend.out _).1⟩
                    case measure => simp [intOf]; omega
                · have hm3 : ¬ (k : Int) + v < s.size := by omega
                  have hm5 : decide ((k : Int) + v < s.size) = false := by simp; omega
                  go_wp2
                  go_quiet (fail)
                  go_wp2
                  all_goals
                    go_roundw
                    case rel => exact ⟨a, b, k + 1, by omega, by omega, by omega, by go_num, rfl, rfl, hid (Hend.out _).1⟩
                    case measure => simp [intOf]; omega
    · go_wp2
      go_ret2
      obtain ⟨ho, hbe, _, _⟩ := hZ.out
      rw [zTo_all _ _ _ (by omega)] at ho
      exact ⟨some ⟨g, 0, none⟩, s.size, by simp, by
        have := HG.out
        have h2 := ho.mono (base' := w.heap.size) (by omega)
        simpa using h2, hbe⟩
end Go.Proofs.Ythlibdpemocpmaa

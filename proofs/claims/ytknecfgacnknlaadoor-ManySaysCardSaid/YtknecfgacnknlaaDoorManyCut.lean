/- many.Cut, and the ways of many.All that end in an error. -/
import Derived.Test.YtknecfgacnknlaaDoorManyAll
import Derived.Test.YtknecfgacnknlaaDoorTrieLong
import Derived.Test.YtknecfgacnknlaaDoorOrdN
namespace Go.Proofs.YtknecfgacnknlaaDoor
set_option linter.unusedVariables false
set_option linter.unusedSimpArgs false
open Go.RowKit Go.Lib

set_option maxHeartbeats 400000 in
theorem manyAll_bad (w : World) (A : Option Addr) (c : Nat) (ws : List ByteArray) (h : Sl w w.heap.size A (ws.map Value.string)) (hc : ws.length ≤ c) (hz : ∀ k, k < ws.length → (wat ws k).size ≤ maxLen) (x : Int) (hW : WErr ws x) (t : ByteArray) :
    Calls Tryd.prog 59 #[.slice A ws.length c, .string t] w fun e w' => e = .returned (.tuple #[.slice none 0 0, errv x]) ∧ Below w.heap.size w w' := by
  have HC := hid (check_bad w A c ws h hc hz x hW)
  clear h hW hz
  go_enter Tryd.func59, Tryd.ntmps59
  go_wp2_with fail
  refine HC.out.mono ?_
  rintro e w1 ⟨rfl, hb1⟩
  go_wp2_with fail
  go_ret2
  exact ⟨rfl, hb1⟩

set_option maxHeartbeats 400000 in
theorem manyAll_long (w : World) (A : Option Addr) (c : Nat) (ws : List ByteArray) (h : Sl w w.heap.size A (ws.map Value.string)) (hc : ws.length ≤ c) (hW : WAll ws) (t : ByteArray) (ht : 24 < t.size) (hm : t.size ≤ maxLen) :
    Calls Tryd.prog 59 #[.slice A ws.length c, .string t] w fun e w' => e = .returned (.tuple #[.slice none 0 0, errv 4]) ∧ Below w.heap.size w w' := by
  have HC := hid (check_ok w A c ws h hc hW)
  clear h hW
  go_enter Tryd.func59, Tryd.ntmps59
  go_wp2_with fail
  refine HC.out.mono ?_
  rintro e w1 ⟨rfl, hb1⟩
  go_wp2_with (first | (go_at_call 63; refine (long1_bad _ t ht hm _ _ (by simp)).mono ?_; rintro e w' ⟨rfl, rfl⟩) | fail)
  go_ret2
  exact ⟨rfl, hb1.alloc hb1.size _⟩

set_option maxHeartbeats 400000 in
theorem manyCut_bad (w : World) (A : Option Addr) (c : Nat) (ws : List ByteArray) (h : Sl w w.heap.size A (ws.map Value.string)) (hc : ws.length ≤ c) (hz : ∀ k, k < ws.length → (wat ws k).size ≤ maxLen) (x : Int) (hW : WErr ws x) (t : ByteArray) :
    Calls Tryd.prog 62 #[.slice A ws.length c, .string t] w fun e w' => e = .returned (.tuple #[.slice none 0 0, errv x]) ∧ Below w.heap.size w w' := by
  have HC := hid (check_bad w A c ws h hc hz x hW)
  clear h hW hz
  go_enter Tryd.func62, Tryd.ntmps62
  go_wp2_with fail
  refine HC.out.mono ?_
  rintro e w1 ⟨rfl, hb1⟩
  go_wp2_with fail
  go_ret2
  exact ⟨rfl, hb1⟩

set_option maxHeartbeats 400000 in
theorem manyCut_long (w : World) (A : Option Addr) (c : Nat) (ws : List ByteArray) (h : Sl w w.heap.size A (ws.map Value.string)) (hc : ws.length ≤ c) (hW : WAll ws) (t : ByteArray) (ht : 24 < t.size) (hm : t.size ≤ maxLen) :
    Calls Tryd.prog 62 #[.slice A ws.length c, .string t] w fun e w' => e = .returned (.tuple #[.slice none 0 0, errv 4]) ∧ Below w.heap.size w w' := by
  have HC := hid (check_ok w A c ws h hc hW)
  clear h hW
  go_enter Tryd.func62, Tryd.ntmps62
  go_wp2_with fail
  refine HC.out.mono ?_
  rintro e w1 ⟨rfl, hb1⟩
  go_wp2_with (first | (go_at_call 63; refine (long1_bad _ t ht hm _ _ (by simp)).mono ?_; rintro e w' ⟨rfl, rfl⟩) | fail)
  go_ret2
  exact ⟨rfl, hb1.alloc hb1.size _⟩

/-! ### The text cut into words -/
/-- The text from k on. -/
def sfx (t : ByteArray) (k : Nat) : ByteArray := t.extract k t.size
theorem sfx_size (t : ByteArray) (k : Nat) : (sfx t k).size = t.size - k := by simp [sfx]
theorem sfx_zero (t : ByteArray) : sfx t 0 = t := by
  refine ext_bt (by rw [sfx_size]; omega) fun j hj => ?_
  rw [sfx_size] at hj
  unfold sfx
  rw [bt_extract _ _ _ _ (by omega), Nat.zero_add]
theorem sfx_sfx (t : ByteArray) (k m : Nat) (h : k + m ≤ t.size) : (sfx t k).extract m (sfx t k).size = sfx t (k + m) := by
  have hz := sfx_size t k
  have hz2 := sfx_size t (k + m)
  have hz3 : ((sfx t k).extract m (sfx t k).size).size = t.size - (k + m) := by
    rw [ByteArray.size_extract, Nat.min_self, hz]; omega
  refine ext_bt (hz3.trans hz2.symm) fun j hj => ?_
  rw [hz3] at hj
  rw [bt_extract _ _ _ _ (by omega)]
  unfold sfx
  rw [bt_extract _ _ _ _ (by omega), bt_extract _ _ _ _ (by omega)]
  congr 1; omega

/-- The words by the numbers in the list are the text from k on, each the longest where it stands. -/
def CutL (ws : List ByteArray) (t : ByteArray) : Nat → List Int → Prop
  | k, [] => k = t.size
  | k, x :: l => k < t.size ∧ ∃ m : Nat, m < ws.length ∧ x = m ∧ WLongest ws (sfx t k) (m : Int) ∧ CutL ws t (k + (wat ws m).size) l

/-- What the loop over the words keeps: what is still to come. -/
def CutSt (ws : List ByteArray) (t : ByteArray) (k : Nat) (acc : List Int) : Prop := ∀ l, CutL ws t 0 l ↔ ∃ l', l = acc ++ l' ∧ CutL ws t k l'

section
variable {ws : List ByteArray} {t : ByteArray} {k m : Nat} {acc : List Int}
theorem cutst_start : CutSt ws t 0 [] := fun l => ⟨fun h => ⟨l, rfl, h⟩, fun ⟨l', h1, h2⟩ => by rw [h1]; exact h2⟩
theorem cutl_head (hD : Dist ws) (hk : k < t.size) (hm : m < ws.length) (hL : WLongest ws (sfx t k) (m : Int)) (l : List Int) : CutL ws t k l ↔ ∃ l', l = (m : Int) :: l' ∧ CutL ws t (k + (wat ws m).size) l' := by
  cases l with
  | nil => exact ⟨fun h => by have : k = t.size := h; omega, fun ⟨l', h, _⟩ => by cases h⟩
  | cons x l =>
    constructor
    · rintro ⟨_, m', h1, rfl, h2, h3⟩
      have e := wlongest_unique hD h2 hL
      have : m' = m := by omega
      subst this
      exact ⟨l, rfl, h3⟩
    · rintro ⟨l', h1, h2⟩
      injection h1 with h1 h3
      subst h1 h3
      exact ⟨hk, m, hm, rfl, hL, h2⟩
theorem cutst_step (hD : Dist ws) (h : CutSt ws t k acc) (hk : k < t.size) (hm : m < ws.length) (hL : WLongest ws (sfx t k) (m : Int)) : CutSt ws t (k + (wat ws m).size) (acc ++ [(m : Int)]) := fun l => by
  rw [h l]
  constructor
  · rintro ⟨l', rfl, h2⟩
    obtain ⟨l2, rfl, h3⟩ := (cutl_head hD hk hm hL l').1 h2
    exact ⟨l2, by simp, h3⟩
  · rintro ⟨l', rfl, h2⟩
    exact ⟨(m : Int) :: l', by simp, (cutl_head hD hk hm hL _).2 ⟨l', rfl, h2⟩⟩
theorem cutst_done (h : CutSt ws t t.size acc) : CutL ws t 0 acc := (h acc).2 ⟨[], by simp, rfl⟩
theorem cutst_fail (hD : Dist ws) (h : CutSt ws t k acc) (hk : k < t.size) (hL : WLongest ws (sfx t k) (-1)) : ∀ l, ¬ CutL ws t 0 l := fun l hl => by
  obtain ⟨l', _, h2⟩ := (h l).1 hl
  cases l' with
  | nil => have : k = t.size := h2; omega
  | cons x l =>
    obtain ⟨_, m', h1, rfl, h3, _⟩ := h2
    have e := wlongest_unique hD h3 hL
    omega
theorem cutl_unique (hD : Dist ws) : ∀ {l l' : List Int} {k : Nat}, CutL ws t k l → CutL ws t k l' → l = l'
  | [], [], _, _, _ => rfl
  | [], x :: l', k, h, h' => by have : k = t.size := h; have := h'.1; omega
  | x :: l, [], k, h, h' => by have : k = t.size := h'; have := h.1; omega
  | x :: l, y :: l', k, h, h' => by
    obtain ⟨_, m, h1, rfl, h2, h3⟩ := h
    obtain ⟨_, m', h1', rfl, h2', h3'⟩ := h'
    have e := wlongest_unique hD h2 h2'
    have : m = m' := by omega
    subst this
    rw [cutl_unique hD h3 h3']
theorem cutl_len : ∀ {l : List Int} {k : Nat}, (∀ m, m < ws.length → 0 < (wat ws m).size) → CutL ws t k l → l.length + k ≤ t.size
  | [], k, _, h => by have : k = t.size := h; simp; omega
  | x :: l, k, hp, h => by
    obtain ⟨_, m, h1, _, _, h2⟩ := h
    have := cutl_len hp h2
    have := hp m h1
    simp only [List.length_cons]; omega
end

/-- Either the words cut the text, or they do not. -/
def CutEnd (ws : List ByteArray) (t : ByteArray) (w : World) : Ending → World → Prop := fun e w' =>
  ((∃ l v, CutL ws t 0 l ∧ e = .returned (.tuple #[v, .nilIface]) ∧ Own w' w.heap.size v l) ∨ ((∀ l, ¬ CutL ws t 0 l) ∧ e = .returned (.tuple #[.slice none 0 0, errv 5]))) ∧ Below w.heap.size w w'

set_option maxRecDepth 100000 in
set_option maxHeartbeats 4000000 in
theorem manyCut_ok (w : World) (A : Option Addr) (c : Nat) (ws : List ByteArray) (h : Sl w w.heap.size A (ws.map Value.string)) (hc : ws.length ≤ c) (hW : WAll ws) (t : ByteArray) (ht : t.size ≤ 24) :
    Calls Tryd.prog 62 #[.slice A ws.length c, .string t] w (CutEnd ws t w) := by
  have HC := hid (check_ok w A c ws h hc hW)
  have HL := hid (fun w1 (hb : Below w.heap.size w w1) s (hs : s.size ≤ 24) r hr => trieLongest_ok w1 A c ws ((h.below hb).mono hb.size) hc hW s hs r hr)
  have Hh := hid h
  have HW := hid hW
  have HD := hid (wall_dist hW)
  have hl6 := hW.1
  clear h hW
  go_enter Tryd.func62, Tryd.ntmps62
  go_wp2_with fail
  refine HC.out.mono ?_
  rintro e w1 ⟨rfl, hb1⟩
  go_wp2_with (first | (go_at_call 63; refine (long1_ok _ t ht _ _ (by simp)).mono ?_; rintro e w' ⟨rfl, rfl⟩) | fail)
  have HB := hid (hb1.alloc hb1.size (.cells #[.string t] 9))
  clear hb1
  generalize (w1.alloc (.cells #[.string t] 9)) = w2 at *
  go_loopw [1, 8] (fun s v wr => ∃ (k : Nat) (s0 : ByteArray) (acc : List Int), s = .string s0 ∧ Hid (s0 = sfx t k) ∧ k ≤ t.size ∧ acc.length ≤ k ∧ s0.size = t.size - k ∧ Hid (CutSt ws t k acc) ∧ Hid (Below w.heap.size w wr) ∧ Hid (Own wr w.heap.size v acc)) (fun s _ _ => match s with | .string s0 => s0.size | _ => 0)
  case atStart => exact ⟨0, t, [], rfl, hid (sfx_zero t).symm, by omega, by simp, by omega, hid cutst_start, HB, hid (Own.nil _ _)⟩
  case round =>
    clear HB
    obtain ⟨k, s, acc, rfl, hs, hk, hacc, hsz, hC, hb, ho⟩ := hrel
    by_cases hlt : k < t.size
    · have he := emp_false (s := s) (by omega)
      obtain ⟨r, hr⟩ := wlongest_exists (ws := ws) (t := s)
      have hcall := hid (HL.out wr hb.out s (by omega) r hr)
      rcases hr with ⟨rfl, hno⟩ | ⟨m, hm, rfl, hbm, hmax⟩
      · have Hf := hid (cutst_fail HD.out hC.out hlt (hs.out ▸ .inl ⟨rfl, hno⟩))
        clear hno
        go_wp2_with fail
        refine hcall.out.mono ?_
        rintro e w3 ⟨rfl, hb3⟩
        go_wp2_with fail
        go_ret2
        exact ⟨.inr ⟨Hf.out, rfl⟩, bch hb.out hb3⟩
      · have Hn := hid (cutst_step HD.out hC.out hlt hm (hs.out ▸ .inr ⟨m, hm, rfl, hbm, hmax⟩))
        have hpos := (HW.out.2 m hm).1
        have hble := hbm.1
        have hwm := wat_get hm
        obtain ⟨s0, hs0⟩ : ∃ s0, wat ws m = s0 := ⟨_, rfl⟩
        rw [hs0] at hpos hble hwm Hn
        have hm' : (m : Int) < ws.length := by omega
        have hmc : (m : Int) < c := by omega
        have hn1 : decide ((m : Int) < 0) = false := by simp
        obtain ⟨g, o, hA, hg, hcell⟩ := Hh.out (by intro e; simp at e; simp [e] at hm)
        have qW0 := hcell m _ hwm
        subst hA
        clear hmax hbm hwm hs0 hcell
        have Hsx := hid (show s.extract s0.size s.size = sfx t (k + s0.size) by
          rw [hs.out]; exact sfx_sfx t k s0.size (by omega))
        go_wp2_with fail
        refine hcall.out.mono ?_
        rintro e w3 ⟨rfl, hb3⟩
        have hB := bch hb.out hb3
        have ho3 := ho.out.below hb3
        have hBs := hB.size
        go_wp2_with (first
          | (at_builtin; refine wp_append_int_at _ rfl _ _ rfl w.heap.size _ acc rfl (ho3.alloc _) _ _ (m : Int) rfl (new_one0 _ _ _) (by omega) (by simp; omega) ?_; intro v5 w5 ho5 hg5 hat5; have hB5 := own_keeps hB ho3 hBs hg5; have q5 := (hB5.cell (p := ⟨g, o + m, none⟩) hg).trans qW0)
          | fail)
        go_roundw
        case rel => exact ⟨k + s0.size, _, acc ++ [(m : Int)], rfl, (by rw [← hsz]; exact Hsx), by omega, by simp; omega, by simp; omega, Hn, hid hB5, hid ho5⟩
        case measure => simp; omega
    · have hke : k = t.size := by omega
      subst hke
      have hse : s = ⟨#[]⟩ := ext_bt (by rw [hsz]; simp; rfl) fun j hj => by omega
      have Hd := hid (cutst_done hC.out)
      subst hse
      go_wp2_with fail
      go_ret2
      exact ⟨.inl ⟨acc, _, Hd.out, rfl, ho.out⟩, hb.out⟩
end Go.Proofs.YtknecfgacnknlaaDoor

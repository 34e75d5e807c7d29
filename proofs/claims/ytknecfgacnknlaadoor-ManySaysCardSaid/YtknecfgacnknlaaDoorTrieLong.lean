/- trie.Longest. -/
import Derived.Test.YtknecfgacnknlaaDoorTrieFns
import Derived.Test.YtknecfgacnknlaaDoorEdgesOf
namespace Go.Proofs.YtknecfgacnknlaaDoor
set_option linter.unusedVariables false
set_option linter.unusedSimpArgs false
open Go.RowKit Go.Maps Go.Lib

/-- The text begins with the word. -/
def Begs (t s : ByteArray) : Prop := s.size ≤ t.size ∧ ∀ j, j < s.size → bt t j = bt s j

/-- Which word is the longest one with which the text begins. -/
def WLongest (ws : List ByteArray) (t : ByteArray) (r : Int) : Prop :=
  (r = -1 ∧ ∀ m, m < ws.length → ¬ Begs t (wat ws m)) ∨ ∃ m : Nat, m < ws.length ∧ r = m ∧ Begs t (wat ws m) ∧ ∀ i, i < ws.length → Begs t (wat ws i) → (wat ws i).size ≤ (wat ws m).size

/-- The same, of the words of at most k bytes. -/
def WLong (ws : List ByteArray) (t : ByteArray) (k : Nat) (r : Int) : Prop :=
  (r = -1 ∧ ∀ m, m < ws.length → Begs t (wat ws m) → k < (wat ws m).size) ∨
  ∃ m : Nat, m < ws.length ∧ r = m ∧ Begs t (wat ws m) ∧ (wat ws m).size ≤ k ∧ ∀ i, i < ws.length → Begs t (wat ws i) → (wat ws i).size ≤ k → (wat ws i).size ≤ (wat ws m).size

theorem beg_pfx {t s : ByteArray} (h : Begs t s) {k : Nat} (hk : k ≤ s.size) : pfx t k = pfx s k := pfx_eq.2 fun j hj => h.2 j (by omega)
theorem beg_of {t s : ByteArray} {k : Nat} (hk : k ≤ t.size) (h : pfx t k = wordP s) : Begs t s ∧ s.size = k := by
  have h1 := congrArg List.length h
  rw [pfx_len, wordP, pfx_len] at h1
  subst h1
  exact ⟨⟨hk, fun j hj => pfx_eq.1 h j hj⟩, rfl⟩

section
variable {ws : List ByteArray} {t : ByteArray} {k : Nat} {r : Int}
theorem wlongest_unique (hD : Dist ws) {r r' : Int} (h : WLongest ws t r) (h' : WLongest ws t r') : r = r' := by
  rcases h with ⟨h1, h2⟩ | ⟨m, h1, h2, h3, h4⟩ <;> rcases h' with ⟨g1, g2⟩ | ⟨n, g1, g2, g3, g4⟩
  · rw [h1, g1]
  · exact absurd g3 (h2 n g1)
  · exact absurd h3 (g2 m h1)
  · have e : (wat ws m).size = (wat ws n).size := Nat.le_antisymm (g4 m h1 h3) (h4 n g1 g3)
    have : wat ws m = wat ws n := ext_bt e fun j hj => by rw [← h3.2 j hj, g3.2 j (by omega)]
    rw [h2, g2, dist_eq hD h1 g1 this]
theorem wlong_start (hW : WAll ws) : WLong ws t 0 (-1) := .inl ⟨rfl, fun m hm _ => (hW.2 m hm).1⟩
theorem wlong_hit (h : WLong ws t k r) (hk : k + 1 ≤ t.size) (hD : Dist ws) {x : Int} (hx : wdTo ws ws.length (pfx t (k + 1)) = x) (h0 : 0 ≤ x) : WLong ws t (k + 1) x := by
  obtain ⟨m, h1, h2, h3⟩ := (wd_word hD).1 (hx ▸ h0)
  obtain ⟨h4, h5⟩ := beg_of hk h3
  exact .inr ⟨m, h1, by rw [← hx, h2], h4, by omega, fun i _ _ h6 => by omega⟩
theorem wlong_miss (h : WLong ws t k r) (hk : k + 1 ≤ t.size) (hD : Dist ws) {x : Int} (hx : wdTo ws ws.length (pfx t (k + 1)) = x) (h0 : ¬ 0 ≤ x) : WLong ws t (k + 1) r := by
  have hno : ∀ m, m < ws.length → Begs t (wat ws m) → (wat ws m).size ≠ k + 1 := fun m hm hb e => by
    have := (wd_word hD (p := pfx t (k + 1))).2 m hm (by rw [wordP, e]; exact beg_pfx hb (by omega))
    omega
  rcases h with ⟨h1, h2⟩ | ⟨m, h1, h2, h3, h4, h5⟩
  · exact .inl ⟨h1, fun m hm hb => by have := h2 m hm hb; have := hno m hm hb; omega⟩
  · exact .inr ⟨m, h1, h2, h3, by omega, fun i hi hb hl => h5 i hi hb (by have := hno i hi hb; omega)⟩
theorem wlong_end (h : WLong ws t k r) (he : ∀ m, m < ws.length → Begs t (wat ws m) → (wat ws m).size ≤ k) : WLongest ws t r := by
  rcases h with ⟨h1, h2⟩ | ⟨m, h1, h2, h3, h4, h5⟩
  · exact .inl ⟨h1, fun m hm hb => by have := h2 m hm hb; have := he m hm hb; omega⟩
  · exact .inr ⟨m, h1, h2, h3, fun i hi hb => h5 i hi hb (he i hi hb)⟩
theorem wlong_stop (h : WLong ws t k r) (hn : ¬ pfx t (k + 1) ∈ nodesTo ws ws.length) : WLongest ws t r := wlong_end h fun m hm hb => Classical.byContradiction fun hc => hn (by
  rw [beg_pfx hb (k := k + 1) (by omega)]
  exact nodesTo_mem.2 (.inr ⟨m, k + 1, hm, by omega, by omega, rfl⟩))
theorem wlong_all (h : WLong ws t t.size r) : WLongest ws t r := wlong_end h fun m hm hb => hb.1
theorem wlong_lo (h : WLong ws t k r) (hl : ws.length ≤ 6) : -1 ≤ r ∧ r ≤ 6 := by
  rcases h with ⟨h1, _⟩ | ⟨m, h1, h2, _⟩ <;> omega
end

/-- What the loop over the bytes of the text keeps. -/
structure LongSt (w1 wr : World) (ws : List ByteArray) (mb : List Nat → Nat) (E cb : Nat) (t : ByteArray) : Prop where
  trie : TrieAt wr w1.heap.size E (nodesTo ws ws.length) mb (wdTo ws ws.length)
  bytes : BytesAt wr cb t

set_option maxRecDepth 100000 in
set_option maxHeartbeats 2000000 in
theorem trieLongest_ok (w : World) (A : Option Addr) (c : Nat) (ws : List ByteArray) (h : Sl w w.heap.size A (ws.map Value.string)) (hc : ws.length ≤ c) (hW : WAll ws) (t : ByteArray) (ht : t.size ≤ 24) (r : Int) (hr : WLongest ws t r) :
    Calls Tryd.prog 57 #[.slice A ws.length c, .string t] w fun e w' => e = .returned (.tuple #[.int .i64 r, .nilIface]) ∧ Below w.heap.size w w' := by
  have HC := hid (check_ok w A c ws h hc hW)
  have HG := hid (fun w1 (hb : Below w.heap.size w w1) => grow_any w1 A c ws hW.1 (wall_size hW) ((h.below hb).mono hb.size))
  have hD := hid (wall_dist hW)
  have HR := hid (fun r' (h' : WLongest ws t r') => wlongest_unique (wall_dist hW) h' hr)
  have H0 := hid (wlong_start (t := t) hW)
  have hl6 := hW.1
  have hconv := fun w' => Go.Lib.run_convert_string_bytes (P := Tryd.prog) w' 9 92 5 t Tryd.underlying9 Tryd.underlying92 Tryd.underlying5
  clear h hW hr
  go_enter Tryd.func57, Tryd.ntmps57
  go_wp2_with fail
  refine HC.out.mono ?_
  rintro e w1 ⟨rfl, hb1⟩
  go_wp2_with (first | (go_at_call 63; refine (long1_ok _ t ht _ _ (by simp)).mono ?_; rintro e w' ⟨rfl, rfl⟩) | fail)
  have hb2 := hb1.alloc hb1.size (.cells #[.string t] 9)
  refine (HG.out _ hb2).mono ?_
  rintro e w3 ⟨mb, E, rfl, hG⟩
  have hb3 := bch hb2 hG.below
  go_wp2_with fail
  have hb4 := bytes_below w3 t
  have hroot : mb [] = w1.heap.size + 1 := by rw [hG.root]; simp
  have hLS : LongSt (w1.alloc (.cells #[.string t] 9)) (bytesWorld w3 5 t) ws mb E w3.heap.size t := ⟨hG.trie.below hG.hE hb4, bytes_at w3 t⟩
  have hB := bch hb3 hb4
  have HLS := hid hLS
  obtain ⟨cb, hcb⟩ : ∃ cb, w3.heap.size = cb := ⟨_, rfl⟩
  rw [hcb] at HLS ⊢
  clear hb4 hb3 hb2 hb1 hLS hcb hG HG hconv
  generalize bytesWorld w3 5 t = wb at *
  generalize grownCap w3 t.size 0 5 = gc at *
  generalize (w1.alloc (.cells #[.string t] 9)) = w1' at *
  go_loopw [28, 9, 8] (fun j at' b wr => ∃ (k u : Nat) (x : Int), k ≤ t.size ∧ j = .int .i64 k ∧ at' = .pointer (some ⟨mb (pfx t k) + 1, 0, none⟩) ∧ b = .int .i64 x ∧ wr = wb.drewN u ∧ Hid (pfx t k ∈ nodesTo ws ws.length) ∧ Hid (WLong ws t k x)) (fun j _ _ _ => t.size - (intOf j).toNat)
  case atStart => exact ⟨0, 0, -1, by omega, rfl, by rw [pfx_zero, hroot], rfl, rfl, nil_node _ _, H0⟩
  case round =>
    clear H0 hroot
    obtain ⟨k, u, x, hk, rfl, rfl, rfl, rfl, hin, hL⟩ := hrel
    by_cases hlt : k < t.size
    · have hlt' : (k : Int) < t.size := by omega
      have hb := HLS.out.bytes k hlt
      have c0 := HLS.out.trie.cell0 _ hin.out
      have hP : PMap (wb.drewN u) _ _ _ := HLS.out.trie.maps _ hin.out
      have hbl := bt_lt t k
      have Hsucc := hid (pfx_succ t k)
      by_cases hmem : pfx t (k + 1) ∈ nodesTo ws ws.length
      · have hF : (fun c => if pfx t k ++ [c] ∈ nodesTo ws ws.length then some (mb (pfx t k ++ [c]) + 1) else none) (bt t k) = some (mb (pfx t (k + 1)) + 1) := by
          rw [pfx_succ] at hmem ⊢
          exact if_pos hmem
        have c1 := HLS.out.trie.cell1 _ hmem
        have Hmem := hid hmem
        obtain ⟨y, hy, HY⟩ : ∃ y, wdTo ws ws.length (pfx t (k + 1)) = y ∧ Hid (wdTo ws ws.length (pfx t (k + 1)) = y) := ⟨_, rfl, rfl⟩
        rw [hy] at c1
        clear hy hmem
        by_cases hy0 : 0 ≤ y
        · have Hn := hid (wlong_hit hL.out hlt hD.out HY.out hy0)
          go_wp2_with (first
            | (at_lookup; go_must (refine wp_lookup_hit _ rfl _ _ rfl (mb (pfx t k)) _ _ rfl hP (bt t k) hbl rfl _ hF ?_))
            | fail)
          go_roundw
          case rel => exact ⟨k + 1, _, y, by omega, by go_num, rfl, rfl, rfl, Hmem, Hn⟩
          case measure => simp [intOf]; omega
        · have Hn := hid (wlong_miss hL.out hlt hD.out HY.out hy0)
          have hy0' : decide (0 ≤ y) = false := by simp; omega
          clear hy0
          go_wp2_with (first
            | (at_lookup; go_must (refine wp_lookup_hit _ rfl _ _ rfl (mb (pfx t k)) _ _ rfl hP (bt t k) hbl rfl _ hF ?_))
            | fail)
          go_roundw
          case rel => exact ⟨k + 1, _, x, by omega, by go_num, rfl, rfl, rfl, Hmem, Hn⟩
          case measure => simp [intOf]; omega
      · have hF : (fun c => if pfx t k ++ [c] ∈ nodesTo ws ws.length then some (mb (pfx t k ++ [c]) + 1) else none) (bt t k) = none := by
          rw [pfx_succ] at hmem
          exact if_neg hmem
        have hx := HR.out x (wlong_stop hL.out hmem)
        subst hx
        clear hmem
        go_wp2_with (first
          | (at_lookup; go_must (refine wp_lookup_miss _ rfl _ _ rfl (mb (pfx t k)) _ _ rfl hP (bt t k) hbl rfl hF ?_))
          | fail)
        go_ret2
        exact ⟨rfl, below_dn hB _⟩
    · have hlt' : ¬ (k : Int) < t.size := by omega
      have hke : k = t.size := by omega
      subst hke
      have hx := HR.out x (wlong_all hL.out)
      subst hx
      go_wp2_with fail
      go_ret2
      exact ⟨rfl, below_dn hB _⟩

set_option maxHeartbeats 400000 in
theorem trieLongest_bad (w : World) (A : Option Addr) (c : Nat) (ws : List ByteArray) (h : Sl w w.heap.size A (ws.map Value.string)) (hc : ws.length ≤ c) (hz : ∀ k, k < ws.length → (wat ws k).size ≤ maxLen) (x : Int) (hW : WErr ws x) (t : ByteArray) :
    Calls Tryd.prog 57 #[.slice A ws.length c, .string t] w fun e w' => e = .returned (.tuple #[.int .i64 0, errv x]) ∧ Below w.heap.size w w' := by
  have HC := hid (check_bad w A c ws h hc hz x hW)
  clear h hW hz
  go_enter Tryd.func57, Tryd.ntmps57
  go_wp2_with fail
  refine HC.out.mono ?_
  rintro e w1 ⟨rfl, hb1⟩
  go_wp2_with fail
  go_ret2
  exact ⟨rfl, hb1⟩

set_option maxHeartbeats 400000 in
theorem trieLongest_long (w : World) (A : Option Addr) (c : Nat) (ws : List ByteArray) (h : Sl w w.heap.size A (ws.map Value.string)) (hc : ws.length ≤ c) (hW : WAll ws) (t : ByteArray) (ht : 24 < t.size) (hm : t.size ≤ maxLen) :
    Calls Tryd.prog 57 #[.slice A ws.length c, .string t] w fun e w' => e = .returned (.tuple #[.int .i64 0, errv 4]) ∧ Below w.heap.size w w' := by
  have HC := hid (check_ok w A c ws h hc hW)
  clear h hW
  go_enter Tryd.func57, Tryd.ntmps57
  go_wp2_with fail
  refine HC.out.mono ?_
  rintro e w1 ⟨rfl, hb1⟩
  go_wp2_with (first | (go_at_call 63; refine (long1_bad _ t ht hm _ _ (by simp)).mono ?_; rintro e w' ⟨rfl, rfl⟩) | fail)
  go_ret2
  exact ⟨rfl, hb1.alloc hb1.size _⟩
end Go.Proofs.YtknecfgacnknlaaDoor

/- letterbecklaw1.TrieOrder returns true at all words: the walk. -/
import Derived.Test.YthlibdpemocpmaaTrieFact
import Derived.Test.YthlibdpemocpmaaIn
import Derived.Test.YthlibdpemocpmaaBefore
namespace Go.Proofs.Ythlibdpemocpmaa
set_option linter.unusedVariables false
set_option linter.unusedSimpArgs false
open Go.RowKit

/-- Which word stands at place i of the order. -/
def ordN (ws : List ByteArray) (i : Nat) : Nat := ((ordW ws).getD i 0).toNat

section
variable {ws : List ByteArray} (hW : WAll ws)
include hW
theorem ordN_get {i : Nat} (hi : i < ws.length) : (ordW ws)[i]? = some (ordN ws i : Int) ∧ ordN ws i < ws.length := by
  have hl := ordW_len (wall_dist hW) (wall_size hW)
  have hi' : i < (ordW ws).length := by omega
  obtain ⟨m, h1, h2⟩ := (ordW_mem (wall_dist hW) (wall_size hW)).1 (List.getElem_mem hi')
  have e : ordN ws i = m := by simp [ordN, hi', h2]
  rw [e]
  exact ⟨by rw [List.getElem?_eq_getElem hi', h2], h1⟩
theorem ordN_bef {i k : Nat} (hk : k < i) (hi : i < ws.length) : Bef (bt (wat ws (ordN ws k))) (wat ws (ordN ws k)).size (bt (wat ws (ordN ws i))) (wat ws (ordN ws i)).size := by
  have hl := ordW_len (wall_dist hW) (wall_size hW)
  have := List.pairwise_iff_getElem.1 (ordW_pair (wall_dist hW) (wall_size hW)) k i (by omega) (by omega) hk
  have e1 : ((ordW ws)[k]).toNat = ordN ws k := by simp [ordN, show k < (ordW ws).length by omega]
  have e2 : ((ordW ws)[i]).toNat = ordN ws i := by simp [ordN, show i < (ordW ws).length by omega]
  unfold LB at this
  rw [e1, e2] at this
  exact this
end
theorem bef_no_beg {a b : ByteArray} (h : Bef (bt a) a.size (bt b) b.size) : ¬ Beg (bt b) b.size (bt a) a.size := by
  rintro ⟨h1, h2⟩
  rcases h with ⟨l, h3, h4, h5, h6⟩ | ⟨h3, h4⟩
  · have := h2 l h4; omega
  · omega

theorem before_in (w : World) (q : Nat) (s t : ByteArray) (hs : s.size ≤ 1000) (ht : t.size ≤ 1000) (b : Bool) (hb : b = true ↔ Bef (bt s) s.size (bt t) t.size) :
    Calls Try.prog 14 #[.string s, .string t] (w.drewN q) fun e w' => e = .returned (.bool b) ∧ ∃ m, w' = w.drewN m := Calls.quiet_of (before_any (w.drewN q) s t hs ht b hb)
theorem begins_in (w : World) (q : Nat) (s t : ByteArray) (hs : s.size ≤ maxLen) (ht : t.size ≤ maxLen) (b : Bool) (hb : b = true ↔ Beg (bt t) t.size (bt s) s.size) :
    Calls Try.prog 17 #[.string s, .string t] (w.drewN q) fun e w' => e = .returned (.bool b) ∧ ∃ m, w' = w.drewN m :=
  (begins_any (w.drewN q) s t hs ht b hb).mono fun _ _ ⟨h, h'⟩ => ⟨h, q, h'.symm⟩

set_option maxRecDepth 100000 in
set_option maxHeartbeats 2000000 in
theorem walk_trieOrder (A : Option Addr) (c : Nat) (ws : List ByteArray) (W : World) (h : Sl W W.heap.size A (ws.map Value.string)) (hc : ws.length ≤ c) (hz : ∀ k, k < ws.length → (wat ws k).size ≤ maxLen) :
    Calls Try.prog 5 #[.slice A ws.length c] W fun e w' => e = .returned (.bool true) ∧ Below W.heap.size W w' := by
  have HF := hid (fun w => trieFact_true w)
  rcases words_or ws with hW | ⟨x, hx, hW⟩
  · have HO := hid (fun w (hb : Below W.heap.size W w) => trieOrder_ok w A c ws ((h.below hb).mono hb.size) hc hW)
    have hl := ordW_len (wall_dist hW) (wall_size hW)
    have HL := hid hl
    have hl6 := hW.1
    have HG := hid (fun i (hi : i < ws.length) => ordN_get hW hi)
    have HB := hid (fun i k (hk : k < i) (hi : i < ws.length) => ordN_bef hW hk hi)
    have HZ := hid (wall_size hW)
    have HS := hid h
    clear hW hz h hl
    go_enter Try.func5, Try.ntmps5
    go_wp2_with fail
    refine (HF.out _).mono ?_
    rintro e w1 ⟨rfl, hb1⟩
    go_wp2_with fail
    refine (HO.out _ hb1).mono ?_
    rintro e w2 ⟨A2, c2, rfl, ho2, hb2⟩
    rw [HL.out] at ho2 ⊢
    have hB2 := bch hb1 hb2
    have hs2 := hid (ho2.slB w2.heap.size (Nat.le_refl _))
    have hsw := hid (HS.out.below hB2)
    have hne : ((ws.length : Int) != ws.length) = false := by simp
    clear hb1 hb2 ho2 HO HF
    go_wp2_with fail
    go_loopw [6] (fun i wr => ∃ k u : Nat, k ≤ ws.length ∧ i = .int .i64 k ∧ wr = w2.drewN u) (fun i _ => ws.length - (intOf i).toNat)
    case atStart => exact ⟨0, 0, by omega, rfl, rfl⟩
    case round =>
      obtain ⟨i, u, hi, rfl, rfl⟩ := hrel
      by_cases hlt : i < ws.length
      · have hlt' : (i : Int) < ws.length := by omega
        obtain ⟨g2, o2, hA2, hg2, hcell2⟩ := hs2.out (ints_ne (by rw [HL.out]; omega))
        obtain ⟨g, o, hA, hg, hcell⟩ := hsw.out (by intro e; simp at e; simp [e] at hlt)
        obtain ⟨hgi, hmi⟩ := HG.out i hlt
        have qi := hcell2 i _ (ints_get' hgi)
        obtain ⟨m, hm, Hm⟩ : ∃ m, ordN ws i = m ∧ Hid (ordN ws i = m) := ⟨_, rfl, rfl⟩
        rw [hm] at qi hmi
        have ri := hcell m _ (wat_get hmi)
        obtain ⟨s, hs, Hs⟩ : ∃ s, wat ws m = s ∧ Hid (wat ws m = s) := ⟨_, rfl, rfl⟩
        have hsz := HZ.out m hmi
        rw [hs] at ri hsz
        have hmi' : (m : Int) < ws.length := by omega
        have hin := hid (fun w => in_true w (m : Int) 0 ((ws.length : Int) - 1) (by omega) (by omega))
        have HC2 := hid hcell2
        have HC := hid hcell
        subst hA hA2
        clear hm hs hgi hcell hcell2
        go_wp2_with fail
        refine (hin.out _).mono ?_
        rintro e w3 ⟨rfl, rfl⟩
        go_wp2_with fail
        go_loopw [7] (fun j wr => ∃ k u : Nat, k ≤ i ∧ j = .int .i64 k ∧ wr = w2.drewN u) (fun j _ => i - (intOf j).toNat)
        case atStart => exact ⟨0, u, by omega, rfl, rfl⟩
        case round =>
          clear hin
          obtain ⟨k, u', hk, rfl, rfl⟩ := hrel
          by_cases hki : k < i
          · have hki' : (k : Int) < i := by omega
            have hkn : (k : Int) < ws.length := by omega
            obtain ⟨hgk, hmk⟩ := HG.out k (by omega)
            have qk := HC2.out k _ (ints_get' hgk)
            have hbf := HB.out i k hki hlt
            obtain ⟨p, hp, Hp⟩ : ∃ p, ordN ws k = p ∧ Hid (ordN ws k = p) := ⟨_, rfl, rfl⟩
            rw [hp] at qk hmk hbf
            rw [Hm.out, Hs.out] at hbf
            have rk := HC.out p _ (wat_get hmk)
            have htz := HZ.out p hmk
            obtain ⟨t, ht, Ht⟩ : ∃ t, wat ws p = t ∧ Hid (wat ws p = t) := ⟨_, rfl, rfl⟩
            rw [ht] at rk htz hbf
            have hmk' : (p : Int) < ws.length := by omega
            have c1 := hid (fun w q => before_in w q t s (by omega) (by omega) true ⟨fun _ => hbf, fun _ => rfl⟩)
            have c2' := hid (fun w q => begins_in w q t s (by unfold maxLen; omega) (by unfold maxLen; omega) false ⟨fun h => absurd h (by decide), fun h => absurd h (bef_no_beg hbf)⟩)
            have qi' : (w2.drewN u').cell? ⟨g2, o2 + i, none⟩ = some (.int .i64 (m : Int)) := qi
            have ri' : (w2.drewN u').cell? ⟨g, o + m, none⟩ = some (.string s) := ri
            have qk' : (w2.drewN u').cell? ⟨g2, o2 + k, none⟩ = some (.int .i64 (p : Int)) := qk
            have rk' : (w2.drewN u').cell? ⟨g, o + p, none⟩ = some (.string t) := rk
            obtain ⟨wv, hwv, Hwv⟩ : ∃ wv, w2.drewN u' = wv ∧ Hid (w2.drewN u' = wv) := ⟨_, rfl, rfl⟩
            rw [hwv] at qi' ri' qk' rk' ⊢
            clear hp ht hgk hbf hwv
            go_wp2_with fail
            go_quiet ((first | (go_at_call 14; exact c1.out _ _) | (go_at_call 17; exact c2'.out _ _)))
            go_wp2_with fail
            go_roundw
            case rel => exact ⟨k + 1, _, by omega, by go_num, by rw [← Hwv.out]; exact World.drewN_drewN _ _ _⟩
            case measure => simp [intOf]; omega
          · have hki' : ¬ (k : Int) < i := by omega
            go_wp2_with fail
            go_roundw
            case rel => exact ⟨i + 1, _, by omega, by go_num, rfl⟩
            case measure => simp [intOf]; omega
      · have hlt' : ¬ (i : Int) < ws.length := by omega
        go_wp2_with fail
        go_ret
        exact ⟨rfl, below_dn hB2 _⟩
  · have HO := hid (fun w (hb : Below W.heap.size W w) => trieOrder_bad w A c ws ((h.below hb).mono hb.size) hc hz x hW)
    clear h hz hW
    go_enter Try.func5, Try.ntmps5
    go_wp2_with fail
    refine (HF.out _).mono ?_
    rintro e w1 ⟨rfl, hb1⟩
    go_wp2_with fail
    refine (HO.out _ hb1).mono ?_
    rintro e w2 ⟨rfl, hb2⟩
    go_wp2_with fail
    go_ret
    exact ⟨rfl, bch hb1 hb2⟩
end Go.Proofs.Ythlibdpemocpmaa

/- The order of words, by places; calls of Before and Begins in regions that draw. -/
import Derived.Test.YtknecfgacnknlaaDoorTrieLong
import Derived.Test.YtknecfgacnknlaaDoorBegins
import Derived.Test.YtknecfgacnknlaaDoorBefore
namespace Go.Proofs.YtknecfgacnknlaaDoor
set_option linter.unusedVariables false
set_option linter.unusedSimpArgs false
open Go.RowKit

/-- Which word stands at place i of the order. -/
def ordN (ws : List ByteArray) (i : Nat) : Nat := ((ordW ws).getD i 0).toNat

section
variable {ws : List ByteArray} (hW : WAll ws)
include hW
theorem ordN_get {i : Nat} (hi : i < ws.length) : (ordW ws)[i]? = some (ordN ws i : Int) ∧ ordN ws i < ws.length := by
  have hl := ordW_len (wall_dist hW) (wall_size hW)
  have hi' : i < (ordW ws).length := by omega
  obtain ⟨m, h1, h2⟩ := (ordW_mem (wall_dist hW) (wall_size hW)).1 (List.getElem_mem hi')
  have e : ordN ws i = m := by simp [ordN, hi', h2]
  rw [e]
  exact ⟨by rw [List.getElem?_eq_getElem hi', h2], h1⟩
theorem ordN_bef {i k : Nat} (hk : k < i) (hi : i < ws.length) : Bef (bt (wat ws (ordN ws k))) (wat ws (ordN ws k)).size (bt (wat ws (ordN ws i))) (wat ws (ordN ws i)).size := by
  have hl := ordW_len (wall_dist hW) (wall_size hW)
  have := List.pairwise_iff_getElem.1 (ordW_pair (wall_dist hW) (wall_size hW)) k i (by omega) (by omega) hk
  have e1 : ((ordW ws)[k]).toNat = ordN ws k := by simp [ordN, show k < (ordW ws).length by omega]
  have e2 : ((ordW ws)[i]).toNat = ordN ws i := by simp [ordN, show i < (ordW ws).length by omega]
  unfold LB at this
  rw [e1, e2] at this
  exact this
end
theorem bef_no_beg {a b : ByteArray} (h : Bef (bt a) a.size (bt b) b.size) : ¬ Beg (bt b) b.size (bt a) a.size := by
  rintro ⟨h1, h2⟩
  rcases h with ⟨l, h3, h4, h5, h6⟩ | ⟨h3, h4⟩
  · have := h2 l h4; omega
  · omega

theorem before_in (w : World) (q : Nat) (s t : ByteArray) (hs : s.size ≤ 1000) (ht : t.size ≤ 1000) (b : Bool) (hb : b = true ↔ Bef (bt s) s.size (bt t) t.size) :
    Calls Tryd.prog 69 #[.string s, .string t] (w.drewN q) fun e w' => e = .returned (.bool b) ∧ ∃ m, w' = w.drewN m := Calls.quiet_of (before_any (w.drewN q) s t hs ht b hb)
theorem begins_in (w : World) (q : Nat) (s t : ByteArray) (hs : s.size ≤ maxLen) (ht : t.size ≤ maxLen) (b : Bool) (hb : b = true ↔ Beg (bt t) t.size (bt s) s.size) :
    Calls Tryd.prog 67 #[.string s, .string t] (w.drewN q) fun e w' => e = .returned (.bool b) ∧ ∃ m, w' = w.drewN m :=
  (begins_any (w.drewN q) s t hs ht b hb).mono fun _ _ ⟨h, h'⟩ => ⟨h, q, h'.symm⟩

theorem wlongest_exists {ws : List ByteArray} {t : ByteArray} : ∃ r, WLongest ws t r := by
  have key : ∀ n, n ≤ ws.length → (∀ m, m < n → ¬ Begs t (wat ws m)) ∨ ∃ m, m < n ∧ Begs t (wat ws m) ∧ ∀ i, i < n → Begs t (wat ws i) → (wat ws i).size ≤ (wat ws m).size := by
    intro n
    induction n with
    | zero => intro _; exact .inl fun m hm => by omega
    | succ n ih =>
      intro hn
      rcases Classical.em (Begs t (wat ws n)) with hb | hb
      · rcases ih (by omega) with h | ⟨m, h1, h2, h3⟩
        · refine .inr ⟨n, by omega, hb, fun i hi h4 => ?_⟩
          by_cases e : i = n
          · subst e; exact Nat.le_refl _
          · exact absurd h4 (h i (by omega))
        · by_cases hle : (wat ws n).size ≤ (wat ws m).size
          · refine .inr ⟨m, by omega, h2, fun i hi h4 => ?_⟩
            by_cases e : i = n
            · subst e; exact hle
            · exact h3 i (by omega) h4
          · refine .inr ⟨n, by omega, hb, fun i hi h4 => ?_⟩
            by_cases e : i = n
            · subst e; exact Nat.le_refl _
            · have := h3 i (by omega) h4; omega
      · rcases ih (by omega) with h | ⟨m, h1, h2, h3⟩
        · refine .inl fun m hm => ?_
          by_cases e : m = n
          · subst e; exact hb
          · exact h m (by omega)
        · refine .inr ⟨m, by omega, h2, fun i hi h4 => ?_⟩
          by_cases e : i = n
          · subst e; exact absurd h4 hb
          · exact h3 i (by omega) h4
  rcases key ws.length (Nat.le_refl _) with h | ⟨m, h1, h2, h3⟩
  · exact ⟨-1, .inl ⟨rfl, h⟩⟩
  · exact ⟨m, .inr ⟨m, h1, rfl, h2, h3⟩⟩
theorem begs_beg {t s : ByteArray} : Begs t s ↔ Beg (bt s) s.size (bt t) t.size := ⟨fun h => ⟨h.1, fun j hj => (h.2 j hj).symm⟩, fun h => ⟨h.1, fun j hj => (h.2 j hj).symm⟩⟩

end Go.Proofs.YtknecfgacnknlaaDoor

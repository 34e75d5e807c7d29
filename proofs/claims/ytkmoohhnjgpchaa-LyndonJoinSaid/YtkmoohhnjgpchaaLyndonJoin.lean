/- letterbecklaw1.LyndonJoin returns true at all texts: the walk. -/
import Derived.Test.YtkmoohhnjgpchaaLynRef
namespace Go.Proofs.Ytkmoohhnjgpchaa
set_option linter.unusedVariables false
set_option linter.unusedSimpArgs false
open Go.RowKit

theorem join_iff {a b : ByteArray} (ha : Lyn (bt a) a.size) (hb : Lyn (bt b) b.size) : Lyn (bt (a ++ b)) (a ++ b).size ↔ Bef (bt a) a.size (bt b) b.size := by
  rw [ByteArray.size_append]
  have h1 : ∀ j, j < a.size → bt (a ++ b) j = bt a j := fun j hj => by rw [bt_append, if_pos hj]
  have h2 : ∀ j, bt (a ++ b) (a.size + j) = bt b j := fun j => by rw [bt_append, if_neg (by omega)]; congr 1; omega
  have e1 : Lyn (bt (a ++ b)) a.size := (lyn_ext h1).2 ha
  have e2 : Lyn (sh (bt (a ++ b)) a.size) b.size := (lyn_ext fun j hj => h2 j).2 hb
  have e3 : Bef (bt (a ++ b)) a.size (sh (bt (a ++ b)) a.size) b.size ↔ Bef (bt a) a.size (bt b) b.size := bef_congr h1 (fun j hj => h2 j)
  rw [← e3]
  exact ⟨lyn_split ha.1 hb.1, lyn_join e1 e2⟩

set_option maxHeartbeats 800000 in
theorem walk_lyndonJoin (a0 : ByteArray) (w0 : a0.size ≤ maxLen) (a1 : ByteArray) (w1 : a1.size ≤ maxLen) (W : World) :
    Calls Try.prog 4 #[.string a0, .string a1] W fun e w' => e = .returned (.bool true) ∧ Below W.heap.size W w' := by
  by_cases hs : a0.size ≤ 24
  · obtain ⟨x, hx⟩ : ∃ x : Bool, x = true ↔ Lyn (bt a0) a0.size := ⟨lynB (bt a0) a0.size, lynB_iff⟩
    have hcx := hid (fun w => lynIs_ok w a0 hs x hx)
    have Hx := hid hx
    clear hx
    by_cases ht : a1.size ≤ 24
    · obtain ⟨y, hy⟩ : ∃ y : Bool, y = true ↔ Lyn (bt a1) a1.size := ⟨lynB (bt a1) a1.size, lynB_iff⟩
      have hcy := hid (fun w => lynIs_ok w a1 ht y hy)
      have Hy := hid hy
      clear hy
      have hsz : (a0 ++ a1).size ≤ 48 := by rw [ByteArray.size_append]; omega
      cases x
      · go_enter Try.func4, Try.ntmps4
        go_wp2_with fail
        refine (lyndonFact_true _).mono ?_
        rintro e v1 ⟨rfl, hb1⟩
        go_wp2_with fail
        refine (hcx.out _).mono ?_
        rintro e v2 ⟨rfl, hb2⟩
        go_wp2_with fail
        refine (hcy.out _).mono ?_
        rintro e v3 ⟨rfl, hb3⟩
        go_wp2
        go_ret
        exact ⟨rfl, bch hb1 (bch hb2 hb3)⟩
      · cases y
        · go_enter Try.func4, Try.ntmps4
          go_wp2_with fail
          refine (lyndonFact_true _).mono ?_
          rintro e v1 ⟨rfl, hb1⟩
          go_wp2_with fail
          refine (hcx.out _).mono ?_
          rintro e v2 ⟨rfl, hb2⟩
          go_wp2_with fail
          refine (hcy.out _).mono ?_
          rintro e v3 ⟨rfl, hb3⟩
          go_wp2
          go_ret
          exact ⟨rfl, bch hb1 (bch hb2 hb3)⟩
        · have hla := Hx.out.1 rfl
          have hlb := Hy.out.1 rfl
          obtain ⟨z, hz⟩ : ∃ z : Bool, z = true ↔ Lyn (bt (a0 ++ a1)) (a0 ++ a1).size := ⟨lynB (bt (a0 ++ a1)) (a0 ++ a1).size, lynB_iff⟩
          have hz2 : z = true ↔ Bef (bt a0) a0.size (bt a1) a1.size := hz.trans (join_iff hla hlb)
          by_cases hl : a0.size + a1.size ≤ 24
          · have hcz := hid (fun w => lynIs_ok w (a0 ++ a1) (by rw [ByteArray.size_append]; omega) z hz)
            have hcB := hid (fun w => before_any w a0 a1 (by omega) (by omega) z hz2)
            have hzz : (z == z) = true := by simp
            clear hla hlb hz hz2
            go_enter Try.func4, Try.ntmps4
            go_wp2_with fail
            refine (lyndonFact_true _).mono ?_
            rintro e v1 ⟨rfl, hb1⟩
            go_wp2_with fail
            refine (hcx.out _).mono ?_
            rintro e v2 ⟨rfl, hb2⟩
            go_wp2_with fail
            refine (hcy.out _).mono ?_
            rintro e v3 ⟨rfl, hb3⟩
            go_wp2_with fail
            refine (hcz.out _).mono ?_
            rintro e v4 ⟨rfl, hb4⟩
            go_wp2_with fail
            refine (hcB.out _).mono ?_
            rintro e v5 ⟨rfl, m, rfl⟩
            go_wp2
            go_ret
            exact ⟨rfl, bch hb1 (bch hb2 (bch hb3 (below_dn hb4 m)))⟩
          · have hcz := hid (fun w => lynIs_bad w (a0 ++ a1) (by rw [ByteArray.size_append]; omega) (by unfold maxLen; omega))
            clear hla hlb hz hz2
            go_enter Try.func4, Try.ntmps4
            go_wp2_with fail
            refine (lyndonFact_true _).mono ?_
            rintro e v1 ⟨rfl, hb1⟩
            go_wp2_with fail
            refine (hcx.out _).mono ?_
            rintro e v2 ⟨rfl, hb2⟩
            go_wp2_with fail
            refine (hcy.out _).mono ?_
            rintro e v3 ⟨rfl, hb3⟩
            go_wp2_with fail
            refine (hcz.out _).mono ?_
            rintro e v4 ⟨rfl, hb4⟩
            have hgt : (24 : Int) < (a0.size : Int) + a1.size := by omega
            go_wp2
            go_ret
            exact ⟨rfl, bch hb1 (bch hb2 (bch hb3 hb4))⟩
    · go_enter Try.func4, Try.ntmps4
      go_wp2_with fail
      refine (lyndonFact_true _).mono ?_
      rintro e v1 ⟨rfl, hb1⟩
      go_wp2_with fail
      refine (hcx.out _).mono ?_
      rintro e v2 ⟨rfl, hb2⟩
      go_wp2_with fail
      refine (lynIs_bad _ a1 (by omega) w1).mono ?_
      rintro e v3 ⟨rfl, hb3⟩
      go_wp2
      go_ret
      exact ⟨rfl, bch hb1 (bch hb2 hb3)⟩
  · obtain ⟨y, v, hcy⟩ : ∃ (y : Bool) (v : Value), Hid ((v = .nilIface ∨ v = errv 4) ∧ ∀ w, Calls Try.prog 15 #[.string a1] w fun e w' => e = .returned (.tuple #[.bool y, v]) ∧ Below w.heap.size w w') := by
      by_cases ht : a1.size ≤ 24
      · exact ⟨lynB (bt a1) a1.size, .nilIface, .inl rfl, fun w => lynIs_ok w a1 ht _ lynB_iff⟩
      · exact ⟨false, errv 4, .inr rfl, fun w => lynIs_bad w a1 (by omega) w1⟩
    go_enter Try.func4, Try.ntmps4
    go_wp2_with fail
    refine (lyndonFact_true _).mono ?_
    rintro e v1 ⟨rfl, hb1⟩
    go_wp2_with fail
    refine (lynIs_bad _ a0 (by omega) w0).mono ?_
    rintro e v2 ⟨rfl, hb2⟩
    go_wp2_with fail
    refine (hcy.out.2 _).mono ?_
    rintro e v3 ⟨rfl, hb3⟩
    go_wp2
    go_ret
    exact ⟨rfl, bch hb1 (bch hb2 hb3)⟩
end Go.Proofs.Ytkmoohhnjgpchaa

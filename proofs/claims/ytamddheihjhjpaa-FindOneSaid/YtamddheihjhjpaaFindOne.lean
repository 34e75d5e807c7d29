/- letterbecklaw1.FindOne returns true at all arguments: the walk. -/
import Derived.Test.YtamddheihjhjpaaFindNear
import Derived.Test.YtamddheihjhjpaaOnePlain
import Derived.Laws.IdiomStrings
namespace Go.Proofs.Ytamddheihjhjpaa
set_option linter.unusedVariables false
set_option linter.unusedSimpArgs false
open Go.RowKit

attribute [local go_sem] get_bt

theorem byte_of {a : Int} (h : (Lit.int .u8 a).wf = true) : ∃ b : UInt8, a = b.toNat := by
  have h2 : 0 ≤ a ∧ a ≤ 255 := by
    have h3 := h
    simp only [Lit.wf, Bool.and_eq_true, decide_eq_true_eq] at h3
    have e1 : IntKind.u8.min = 0 := by decide
    have e2 : IntKind.u8.max = 255 := by decide
    omega
  refine ⟨UInt8.ofNat a.toNat, ?_⟩
  simp
  omega

theorem one_str (w : World) (b : UInt8) : Sem.run Try.prog (convert 38 9 (.slice (some ⟨w.heap.size, 0, none⟩) 1 1)) (w.alloc (.cells #[.int .u8 (b.toNat : Int)] 5)) = .ok (.string ⟨#[b]⟩) (w.alloc (.cells #[.int .u8 (b.toNat : Int)] 5)) :=
  run_convert_bytes_back (w.alloc (.cells #[.int .u8 (b.toNat : Int)] 5)) _ _ 5 ⟨w.heap.size, 0, none⟩ 1 [b] Try.underlying38 Try.underlying5 Try.underlying9 fun j hj => by
    have : j = 0 := by simp at hj; omega
    subst this
    simp [Addr.add]

set_option maxRecDepth 100000 in
set_option maxHeartbeats 1000000 in
theorem walk_findOne (a0 : ByteArray) (w0 : a0.size ≤ maxLen) (a1 : Int) (w1 : (Lit.int .u8 a1).wf = true) (W : World) :
    Calls Try.prog 8 #[.string a0, .int .u8 a1] W fun e w' => e = .returned (.bool true) ∧ Below W.heap.size W w' := by
  obtain ⟨b, rfl⟩ := byte_of w1
  clear w1
  have hcv := fun w => one_str w b
  obtain ⟨x, hx⟩ : ∃ x : ByteArray, x = ⟨#[b]⟩ := ⟨_, rfl⟩
  have hx1 : x.size = 1 := by rw [hx]; rfl
  have hxb : bt x 0 = b.toNat := by rw [hx]; rfl
  rw [← hx] at hcv
  clear hx
  by_cases ht : a0.size ≤ 24
  · have Hc := hid (fun w => findAll_ok w a0 x ht (by omega) (by omega))
    have Hd := hid (fun w r h => findApart_ok w a0 x ht (by omega) (by omega) r h)
    rw [hx1] at Hc Hd
    have Hap := hid (apart_one (bt x) (bt a0) a0.size)
    have Hd2 := hid (fun w => Hd.out w _ Hap)
    have Hget := hid (fun i (h : i < a0.size) (he : b.toNat = bt a0 i) => pos_one_get (f := bt x) (t := bt a0) (m := a0.size) h (hxb.trans he))
    have Hhit := hid (fun i (he : b.toNat = bt a0 i) => congrArg List.length (pos_one_hit (f := bt x) (t := bt a0) (m := i) (hxb.trans he)))
    have Hmiss := hid (fun i (he : b.toNat ≠ bt a0 i) => congrArg List.length (pos_one_miss (f := bt x) (t := bt a0) (m := i) (by rw [hxb]; exact he)))
    have hl := posI_len (bt x) 1 (bt a0) a0.size
    have hl2 := pos_len (bt x) 1 (bt a0) a0.size
    have Hl := hid hl
    rw [← hl] at hl2
    have H0 := hid (show (pos (bt x) 1 (bt a0) 0).length = 0 from rfl)
    have Hle := hid (fun i => pos_len (bt x) 1 (bt a0) i)
    generalize posI (bt x) 1 (bt a0) a0.size = L at *
    generalize pos (bt x) 1 (bt a0) = F at *
    clear hl hx1 hxb Hd Hap
    go_enter Try.func8, Try.ntmps8
    go_wp2_with fail
    refine (findFact_true _).mono ?_
    rintro e v1 ⟨rfl, hb1⟩
    go_wp2_with fail
    refine (Hc.out _).mono ?_
    rintro e v2 ⟨A, c, rfl, ho, hb2⟩
    go_wp2_with fail
    refine (Hd2.out _).mono ?_
    rintro e v3 ⟨rfl, hb3⟩
    go_wp2_with fail
    have hb2' : Below v1.heap.size v1 v2 := ((Below.refl _ _).alloc (Nat.le_refl _) _).trans (hb2.mono (by simp))
    have hb3' : Below v2.heap.size v2 v3 := ((Below.refl _ _).alloc (Nat.le_refl _) _).trans (hb3.mono (by simp))
    have hsl : Sl v3 v3.heap.size A (ints L) := (ho.below hb3').slB _ (Nat.le_refl _)
    have HB := hid (bch (bch hb1 hb2') hb3')
    clear hb1 hb2 hb2' hb3 hb3' ho hcv
    go_loopw [10, 11] (fun m i wr => ∃ k q u : Nat, k ≤ a0.size ∧ q ≤ L.length ∧ i = .int .i64 k ∧ m = .int .i64 q ∧ wr = v3.drewN u ∧ Hid ((F k).length = q)) (fun _ i _ => a0.size - (intOf i).toNat)
    case atStart => exact ⟨0, 0, 0, Nat.zero_le _, Nat.zero_le _, rfl, rfl, rfl, H0⟩
    case round =>
      obtain ⟨k, q, u, hk, hq, rfl, rfl, rfl, hkq⟩ := hrel
      by_cases hlt : k < a0.size
      · by_cases he : b.toNat = bt a0 k
        · have hg := Hget.out k hlt he
          have hn := Hhit.out k he
          rw [hkq.out] at hg
          rw [List.length_append, hkq.out] at hn
          have Hn : Hid ((F (k + 1)).length = q + 1) := hn
          have hqL : q < L.length := (List.getElem?_eq_some_iff.1 hg).1
          obtain ⟨g, o, hA, hg', hc⟩ := hsl (ints_ne (by omega))
          subst hA
          have q1 := hc _ _ (ints_get' hg)
          have e1 : ((bt a0 k : Int) == (b.toNat : Int)) = true := by rw [beq_iff_eq, he]
          clear hc hg hn he
          go_wp2
          go_roundw
          case rel => exact ⟨k + 1, q + 1, _, by omega, by omega, by go_num, by go_num, rfl, Hn⟩
          case measure => simp [intOf]; omega
        · have hn := Hmiss.out k he
          rw [hkq.out] at hn
          have Hn := hid hn
          have e1 : ((bt a0 k : Int) == (b.toNat : Int)) = false := by rw [beq_eq_false_iff_ne]; omega
          clear hn he
          go_wp2
          go_roundw
          case rel => exact ⟨k + 1, q, _, by omega, by omega, by go_num, rfl, rfl, Hn⟩
          case measure => simp [intOf]; omega
      · have hka : k = a0.size := by omega
        have hq2 : q = L.length := by rw [← hkq.out, hka]; exact Hl.out.symm
        clear hka
        subst hq2
        go_wp2
        go_ret
        exact ⟨rfl, below_dn HB.out _⟩
  · have hgt : decide (24 < (a0.size : Int)) = true := by simp; omega
    have hbad := hid (fun w => check_bad w a0 x (.inl (by omega)) w0 (by unfold maxLen; omega))
    go_enter Try.func8, Try.ntmps8
    go_wp2_with fail
    refine (findFact_true _).mono ?_
    rintro e v1 ⟨rfl, hb1⟩
    go_wp2_with fail
    refine (findAll_err _ a0 x 4 hbad).mono ?_
    rintro e v2 ⟨rfl, hb2⟩
    go_wp2_with fail
    refine (findApart_err _ a0 x 4 hbad).mono ?_
    rintro e v3 ⟨rfl, hb3⟩
    go_wp2
    go_ret
    have hb2' : Below v1.heap.size v1 v2 := ((Below.refl _ _).alloc (Nat.le_refl _) _).trans (hb2.mono (by simp))
    have hb3' : Below v2.heap.size v2 v3 := ((Below.refl _ _).alloc (Nat.le_refl _) _).trans (hb3.mono (by simp))
    exact ⟨rfl, bch (bch hb1 hb2') hb3'⟩
end Go.Proofs.Ytamddheihjhjpaa

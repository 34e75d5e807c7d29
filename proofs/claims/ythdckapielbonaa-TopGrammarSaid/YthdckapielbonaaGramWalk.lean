/- gram.Names, gram.Has at rules without a fault. -/
import Derived.Test.YthdckapielbonaaGramHas
namespace Go.Proofs.Ythdckapielbonaa
set_option linter.unusedVariables false
set_option linter.unusedSimpArgs false
open Go.RowKit Go.Deep

attribute [local go_sem] get_bt

/-- core.Long(m, s) at the place of its call: the one text lies in a new block. -/
theorem longN_ok (w : World) (s : ByteArray) (m : Nat) (hm : m ≤ 1000) (hs : s.size ≤ m) (b c : Nat) (hc : w.cell? ⟨b, 0, none⟩ = some (.string s)) :
    Calls Try.prog 25 #[.int .i64 (m : Int), .slice (some ⟨b, 0, none⟩) 1 c] w fun e w' => e = .returned .nilIface ∧ w = w' :=
  long_ok w _ c [s] m (b + 1) (fun _ => ⟨b, 0, rfl, by omega, fun i u hu => by
    match i, hu with
    | 0, hu => simp at hu; subst hu; exact hc⟩) (by simp) (by omega) (fun i hi => by
    match i, hi with
    | 0, _ => show (s.size : Int) ≤ m; omega)

theorem one_sign (w : World) (c : Nat) (hc : c < 256) : Sem.run Try.prog (convert 61 9 (.slice (some ⟨w.heap.size, 0, none⟩) 1 1)) (w.alloc (.cells #[.int .u8 (c : Int)] 5)) = .ok (.string ⟨#[UInt8.ofNat c]⟩) (w.alloc (.cells #[.int .u8 (c : Int)] 5)) := by
  have e : ((UInt8.ofNat c).toNat : Int) = c := by simp; omega
  have h := run_convert_bytes_back (P := Try.prog) (w.alloc (.cells #[.int .u8 (c : Int)] 5)) 61 9 5 ⟨w.heap.size, 0, none⟩ 1 [UInt8.ofNat c] Try.underlying61 Try.underlying5 Try.underlying9 fun j hj => by
    have : j = 0 := by simp at hj; omega
    subst this
    simp [Addr.add]
    omega
  exact h

theorem and_one {x k : Nat} (hx : x < 2 ^ 26) (b : Bool) (hb : x.testBit k = b) : (bits .and .u32 ((x : Int) / 2 ^ k) 1 == 1) = b := by
  have e : (x : Int) / 2 ^ k = ((x / 2 ^ k : Nat) : Int) := by simp
  have hle : x / 2 ^ k ≤ x := Nat.div_le_self _ _
  have h := u32_and_nat (x / 2 ^ k) 1 (by omega) (by omega)
  rw [Nat.testBit_eq_decide_div_mod_eq] at hb
  rw [e, show ((1 : Int)) = ((1 : Nat) : Int) from rfl, h, Nat.and_one_is_mod]
  have h2 : x / 2 ^ k % 2 < 2 := Nat.mod_lt _ (by omega)
  generalize x / 2 ^ k % 2 = r at *
  subst hb
  rw [Bool.eq_iff_iff]
  simp
  omega

set_option maxRecDepth 100000 in
set_option maxHeartbeats 2000000 in
theorem gnames_ok (w : World) (A : Option Addr) (c : Nat) (R : List (Nat × ByteArray)) (h : RL w w.heap.size A R) (hl : R.length ≤ 10) (s : ByteArray) (hs : s.size ≤ 24) (hs1 : 1 ≤ s.size) (V : Nat → Nat → Nat) (hV : NamesIn w R s V) :
    Calls Try.prog 30 #[.slice A R.length c, .string s] w fun e w' => e = .returned (.tuple #[.string (setS (V 0 s.size) 26), .nilIface]) ∧ Below w.heap.size w w' := by
  have HC := hid (gcheck_ok w A c R h hV.ok hl)
  have HN := hid (fun w' (hb : Below w.heap.size w w') => names_any w' A c R ((h.below hb).mono hb.size) hl s hs hs1 V ⟨hV.ok, hV.one, hV.two, hV.lt⟩)
  have HL := hid (fun w b c hc => longN_ok w s 24 (by omega) hs b c hc)
  have hemp := emp_false (s := s) hs1
  have hxl := hV.lt 0 s.size
  obtain ⟨x, hx⟩ : ∃ x, V 0 s.size = x := ⟨_, rfl⟩
  have HX := hid hx
  rw [hx] at hxl ⊢
  clear hx h hV
  go_enter Try.func30, Try.ntmps30
  go_wp2_with fail
  refine HC.out.mono ?_
  rintro e w1 ⟨rfl, hb1⟩
  go_wp2_with (first | (go_at_call 25; refine (HL.out _ _ _ (by simp)).mono ?_; rintro e w' ⟨rfl, rfl⟩) | fail)
  have hb2 := hid (hb1.alloc hb1.size (.cells #[.string s] 9))
  obtain ⟨w2, hw2⟩ : ∃ w2, w1.alloc (.cells #[.string s] 9) = w2 := ⟨_, rfl⟩
  rw [hw2] at hb2 ⊢
  clear hw2 hb1
  have HN2 := hid (HN.out w2 hb2.out)
  clear HN HC
  refine HN2.out.mono ?_
  rintro e w3 ⟨rfl, mb, hT⟩
  have c1 := hT.cellT (i := 0) (by omega) (Nat.le_refl _)
  have c2 := hT.cell (i := 0) (m := s.size) (by omega) (by omega)
  rw [gst_old _ _ _ _ hs1 (by omega), HX.out] at c2
  obtain ⟨m1, hm1, Hm1⟩ : ∃ m1 : Nat, s.size - 0 + 1 = m1 ∧ Hid (m1 = s.size + 1) := ⟨_, rfl, by show _ = _; omega⟩
  rw [hm1] at c1
  have i1 : (0 : Int) < s.size := by omega
  have i2 : (s.size : Int) < m1 := by have := Hm1.out; omega
  have hb3 := hid (bch hb2.out hT.below)
  clear hT hb2 HN2 hm1
  go_wp2_with fail
  go_loopw [8, 10] (fun o c wr => ∃ k cc : Nat, k ≤ 26 ∧ cc = 65 + k ∧ c = .int .u8 (cc : Int) ∧ o = .string (setS x k) ∧ Hid (Below w.heap.size w wr)) (fun _ c _ => 91 - (intOf c).toNat)
  case atStart => exact ⟨0, 65, by omega, rfl, rfl, by rw [setS_zero]; rfl, hb3⟩
  case round =>
    obtain ⟨k, cc, hk, hcc, rfl, rfl, hb⟩ := hrel
    clear hb3
    have HCC := hid hcc
    by_cases hk26 : k < 26
    · have hc1 : (cc : Int) ≤ 90 := by omega
      have hc2 : (cc : Int) - 65 = k := by omega
      have hc3 : (65 : Int) ≤ cc := by omega
      have hsz := setS_size x k
      have hle := setL_le x k
      have HS := hid (fun w => one_sign w cc (by omega))
      by_cases hbit : x.testBit k = true
      · have hand := and_one hxl true hbit
        have hS2 := hid (show setS x (k + 1) = setS x k ++ ⟨#[UInt8.ofNat cc]⟩ by rw [setS_hit hbit, HCC.out])
        obtain ⟨o, ho⟩ : ∃ o, setS x k = o := ⟨_, rfl⟩
        rw [ho] at hS2 hsz ⊢
        have hol : o.size ≤ 26 := by omega
        have hbA := hid (fun o => (hb.out.alloc hb.out.size o))
        have hcv := HS.out wr
        clear hcc hbit ho hsz hle
        go_wp2_with fail
        go_roundw
        case rel => exact ⟨k + 1, cc + 1, by omega, by have := HCC.out; omega, by go_num, by rw [hS2.out], hid (hbA.out _)⟩
        case measure => simp [intOf]; omega
      · have hand := and_one hxl false (by simpa using hbit)
        have hS2 := hid (setS_miss hbit)
        clear hcc hbit
        go_wp2_with fail
        go_roundw
        case rel => exact ⟨k + 1, cc + 1, by omega, by have := HCC.out; omega, by go_num, by rw [hS2.out], hb⟩
        case measure => simp [intOf]; omega
    · have hk2 : k = 26 := by omega
      subst hk2
      have hc1 : ¬ (cc : Int) ≤ 90 := by omega
      clear hcc
      go_wp2_with fail
      go_ret2
      exact ⟨rfl, hb.out⟩

theorem gnames_empty (w : World) (A : Option Addr) (c : Nat) (R : List (Nat × ByteArray)) (h : RL w w.heap.size A R) (hl : R.length ≤ 10) (hR : ∀ r ∈ R, ROk r) (s : ByteArray) (hs : s.size = 0) :
    Calls Try.prog 30 #[.slice A R.length c, .string s] w fun e w' => e = .returned (.tuple #[.string ByteArray.empty, .nilIface]) ∧ Below w.heap.size w w' := by
  have HC := hid (gcheck_ok w A c R h hR hl)
  have HL := hid (fun w b c hc => longN_ok w s 24 (by omega) (by omega) b c hc)
  have hemp := emp_true hs
  clear h hR
  go_enter Try.func30, Try.ntmps30
  go_wp2_with fail
  refine HC.out.mono ?_
  rintro e w1 ⟨rfl, hb1⟩
  go_wp2_with (first | (go_at_call 25; refine (HL.out _ _ _ (by simp)).mono ?_; rintro e w' ⟨rfl, rfl⟩) | fail)
  go_ret2
  exact ⟨rfl, hb1.alloc hb1.size _⟩

/-- gram.Has looks for the sign S in what gram.Names hands back. -/
theorem ghas_of (w : World) (A : Option Addr) (n c : Nat) (s o : ByteArray) (b : Bool) (ho : o.size ≤ 26) (hb : b = true ↔ ∃ i, i < o.size ∧ bt o i = 83)
    (h : Calls Try.prog 30 #[.slice A n c, .string s] w fun e w' => e = .returned (.tuple #[.string o, .nilIface]) ∧ Below w.heap.size w w') :
    Calls Try.prog 23 #[.slice A n c, .string s] w fun e w' => e = .returned (.tuple #[.bool b, .nilIface]) ∧ Below w.heap.size w w' := by
  have H := hid h
  have HB := hid hb
  clear h hb
  go_enter Try.func23, Try.ntmps23
  go_wp2_with fail
  refine H.out.mono ?_
  rintro e w1 ⟨rfl, hb1⟩
  go_wp2_with fail
  go_loopw [20] (fun i wr => wr = w1 ∧ ∃ k : Nat, k ≤ o.size ∧ i = .int .i64 (k : Nat) ∧ Hid (∀ j, j < k → bt o j ≠ 83)) (fun i _ => o.size - (intOf i).toNat)
  case atStart => exact ⟨rfl, 0, by omega, rfl, hid (fun j hj => by omega)⟩
  case round =>
    obtain ⟨rfl, k, hk, rfl, hn⟩ := hrel
    by_cases hlt : k < o.size
    · have hlt' : (k : Int) < o.size := by omega
      by_cases he : bt o k = 83
      · have he' : ((bt o k : Int) == 83) = true := by rw [he]; rfl
        have hb2 := hid (show b = true from HB.out.2 ⟨k, hlt, he⟩)
        clear he
        go_wp2_with fail
        go_ret2
        exact ⟨by rw [hb2.out]; rfl, hb1⟩
      · have he' : ((bt o k : Int) == 83) = false := by rw [beq_eq_false_iff_ne]; omega
        have hn2 := hid (show ∀ j, j < k + 1 → bt o j ≠ 83 from fun j hj => by
          by_cases e : j = k
          · rw [e]; exact he
          · exact hn.out j (by omega))
        clear he
        go_wp2_with fail
        go_roundw
        case rel => exact ⟨trivial, k + 1, by omega, by go_num, hn2⟩
        case measure => simp [intOf]; omega
    · have hlt' : ¬ (k : Int) < o.size := by omega
      have hb2 := hid (show b = false from by
        cases hbv : b with
        | false => rfl
        | true =>
          obtain ⟨i, hi, he⟩ := HB.out.1 hbv
          exact absurd he (hn.out i (by omega)))
      go_wp2_with fail
      go_ret2
      exact ⟨by rw [hb2.out]; rfl, hb1⟩
end Go.Proofs.Ythdckapielbonaa

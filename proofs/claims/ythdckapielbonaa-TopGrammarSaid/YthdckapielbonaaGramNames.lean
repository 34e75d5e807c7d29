/- gram.names: the table of names of all parts. -/
import Derived.Test.YthdckapielbonaaGramFns
import Derived.Deep.RegionHeld3
namespace Go.Proofs.Ythdckapielbonaa
set_option linter.unusedVariables false
set_option linter.unusedSimpArgs false
open Go.RowKit Go.Deep

attribute [local go_sem] get_bt

theorem and_pow (x d : Nat) : x &&& 2 ^ d = if x.testBit d then 2 ^ d else 0 := by
  apply Nat.eq_of_testBit_eq
  intro j
  rw [Nat.testBit_and, Nat.testBit_two_pow]
  by_cases h : d = j
  · subst h
    by_cases hx : x.testBit d = true
    · rw [if_pos hx, Nat.testBit_two_pow]; simp [hx]
    · rw [if_neg hx]; simp at hx; simp [hx]
  · split
    · rw [Nat.testBit_two_pow]; simp [h]
    · simp [h]

theorem and_bit {x d : Nat} (hx : x < 2 ^ 26) (hd : d < 26) (h : x.testBit d = true) : bits .and .u32 (x : Int) ((2 ^ d : Nat) : Int) = ((2 ^ d : Nat) : Int) := by
  have h4 : 2 ^ d < 2 ^ 26 := Nat.pow_lt_pow_right (by omega) hd
  rw [u32_and_nat x (2 ^ d) (by omega) (by omega), and_pow, if_pos h]
theorem and_none {x d : Nat} (hx : x < 2 ^ 26) (hd : d < 26) (h : ¬ x.testBit d = true) : bits .and .u32 (x : Int) ((2 ^ d : Nat) : Int) = 0 := by
  have h4 : 2 ^ d < 2 ^ 26 := Nat.pow_lt_pow_right (by omega) hd
  rw [u32_and_nat x (2 ^ d) (by omega) (by omega), and_pow, if_neg h]; rfl

structure NamesIn (w : World) (R : List (Nat × ByteArray)) (s : ByteArray) (V : Nat → Nat → Nat) : Prop where
  ok : ∀ r ∈ R, ROk r
  one : ∀ i, i < s.size → fold1 s i R = V i 1
  two : ∀ i n, 2 ≤ n → i + n ≤ s.size → fold2 R V i n (n - 1) = V i n
  lt : ∀ i n, V i n < 2 ^ 26

set_option maxRecDepth 100000 in
set_option maxHeartbeats 4000000 in
theorem names_any (w : World) (A : Option Addr) (c : Nat) (R : List (Nat × ByteArray)) (h : RL w w.heap.size A R) (hl : R.length ≤ 10) (s : ByteArray) (hs : s.size ≤ 24) (hs1 : 1 ≤ s.size) (V : Nat → Nat → Nat) (hV : NamesIn w R s V) :
    Calls Try.prog 32 #[.slice A R.length c, .string s] w fun e w' => e = .returned (.slice (some ⟨w.heap.size, 0, none⟩) s.size s.size) ∧ ∃ mb, GTab w w' s.size s.size (gst V (s.size + 1) 0 0) mb := by
  have H := hid h
  have HV := hid hV
  have HB := hid bit_any
  have HBq := hid (fun (w : World) (n c b : Nat) (h1 : 65 ≤ c) (h2 : c ≤ 90) (hb : 2 ^ (c - 65) = b) => Calls.quiet_of_same (bit_any (w.drewN n) c b h1 h2 hb))
  have hmk := run_make_row' (P := Try.prog) 59 58 (.slice none 0 0) 24 Try.underlying59 info_urow rfl .i64 .i64 s.size (by omega) (by omega)
  have HM := hid (fun n (hn : n ≤ 100) => run_make_row' (P := Try.prog) 58 57 (.int .u32 0) 4 Try.underlying58 info_u32 rfl .i64 .i64 n (by omega) (by omega))
  have H0 := hid (gtab_start w s.size (gst V 1 0 0) id)
  clear h hV
  go_enter Try.func32, Try.ntmps32
  go_wp2_with fail
  obtain ⟨N, hN⟩ : ∃ N, w.heap.size = N := ⟨_, rfl⟩
  have HNe := hid hN
  rw [hN] at H ⊢
  clear hmk hN
  go_loopw [20] (fun i wr => ∃ k mb, k ≤ s.size ∧ i = .int .i64 (k : Nat) ∧ Hid (GTab w wr s.size k (gst V 1 k 0) mb)) (fun i _ => s.size - (intOf i).toNat)
  case atStart => exact ⟨0, id, by omega, rfl, H0⟩
  case round =>
    clear H0
    obtain ⟨i, mb, hi, rfl, hT⟩ := hrel
    by_cases hlt : i < s.size
    · have hlt' : (i : Int) < s.size := by omega
      obtain ⟨m1, hm1, Hm1⟩ : ∃ m1 : Nat, ((s.size : Int) - i + 1) = m1 ∧ Hid (m1 = s.size - i + 1) := ⟨s.size - i + 1, by omega, rfl⟩
      have hmk2 := HM.out m1 (by have := Hm1.out; omega)
      have t1 : ∀ o, (wr.alloc o).cell? ⟨N, i, none⟩ = some (gtop s.size i mb i) := fun o => by rw [← HNe.out]; exact (hT.out.top.alloc o).cell hlt
      have t2 : ∀ o, (wr.alloc o).frozen? ⟨N, i, none⟩ = false := fun o => by rw [← HNe.out]; exact (hT.out.top.alloc o).frozen i
      have Hn := hid (by have := hT.out.row hlt (fun m _ => by unfold gst; rw [if_neg (by omega)]; split <;> rfl); rw [← Hm1.out, HNe.out] at this; exact this)
      clear hT
      go_wp2_with fail
      obtain ⟨rb, hrb⟩ : ∃ rb, wr.heap.size = rb := ⟨_, rfl⟩
      rw [hrb] at Hn ⊢
      obtain ⟨wn, hwn⟩ : ∃ wn, (wr.alloc (.cells (madeCells #[.int .u32 0] m1) 57)).setCell ⟨N, i, none⟩ (.slice (some ⟨rb, 0, none⟩) m1 m1) = wn := ⟨_, rfl⟩
      rw [hwn] at Hn ⊢
      obtain ⟨mb2, hmb2⟩ : ∃ mb2, ext1 mb i rb = mb2 := ⟨_, rfl⟩
      rw [hmb2] at Hn
      clear hmb2 hwn hrb t1 t2 hmk2
      go_loopw [34] (fun j wi => ∃ q : Nat, q ≤ R.length ∧ j = .int .i64 q ∧ Hid (GTab w wi s.size (i + 1) (gst V 1 i (fold1 s i (R.take q))) mb2)) (fun j _ => R.length - (intOf j).toNat)
      case atStart => exact ⟨0, by omega, rfl, Hn⟩
      case round =>
        clear Hn
        obtain ⟨q, hq, rfl, hT⟩ := hrel
        by_cases hql : q < R.length
        · have hql' : (q : Int) < R.length := by omega
          obtain ⟨r, hr⟩ : ∃ r, R[q]? = some r := ⟨_, List.getElem?_eq_getElem hql⟩
          have hok := HV.out.ok r (List.mem_of_getElem? hr)
          obtain ⟨g, o, hA, hg, hcl⟩ := (H.out.kept (w' := wr) (fun k hk => hT.out.since.block k (by rw [HNe.out]; exact hk))) (by intro e; simp [e] at hql)
          obtain ⟨q0, q1⟩ := hcl q r hr
          have hsn := take_snoc hr
          obtain ⟨n, st⟩ := r
          simp only at q0 q1
          subst hA
          clear hcl hr
          have hTa := hid (fun o => hT.out.alloc o)
          have hi1 : (i : Int) + 1 ≤ s.size := by omega
          rcases Classical.em (st = s.extract i (i + 1)) with he | he
          · have he1 := eq_true' he
            have hfs := hid (show fold1 s i (R.take (q + 1)) = fold1 s i (R.take q) ||| 2 ^ (n - 65) by rw [hsn, fold1_snoc, con1, if_pos he])
            clear hsn he
            go_wp2_with fail
            go_quiet (fail)
            go_wp2_with fail
            have hTc := hid ((hTa.out (.cells #[.int .u8 (n : Int), .string st] 41)).dn nq)
            have c1 : ((wr.alloc (.cells #[.int .u8 (n : Int), .string st] 41)).drewN nq).cell? ⟨wr.heap.size, 0, none⟩ = some (.int .u8 (n : Int)) := by go_simp
            have hne2 : mb2 i ≠ wr.heap.size := by have := hT.out.hi (i := i) (by omega); omega
            obtain ⟨wc, hwc⟩ : ∃ wc, (wr.alloc (.cells #[.int .u8 (n : Int), .string st] 41)).drewN nq = wc := ⟨_, rfl⟩
            rw [hwc] at hTc c1 ⊢
            obtain ⟨rx, hrx⟩ : ∃ rx, wr.heap.size = rx := ⟨_, rfl⟩
            rw [hrx] at c1 hne2 ⊢
            obtain ⟨x, hx, Hx⟩ : ∃ x, fold1 s i (R.take q) = x ∧ Hid (fold1 s i (R.take q) = x) := ⟨_, rfl, rfl⟩
            rw [hx] at hTc
            have hxl : x < 2 ^ 26 := by rw [← hx]; exact fold1_lt s i _ fun r hr => HV.out.ok r (List.mem_of_mem_take hr)
            obtain ⟨o1, o2, _⟩ := hok
            simp only at o1 o2
            obtain ⟨b, hbv⟩ : ∃ b, 2 ^ (n - 65) = b := ⟨_, rfl⟩
            have hbl : b < 2 ^ 26 := by rw [← hbv]; exact Nat.pow_lt_pow_right (by omega) (by omega)
            have hor : bits .or .u32 (x : Int) (b : Int) = ((x ||| b : Nat) : Int) := u32_or_nat x b (by omega) (by omega)
            have HBn := hid (fun w => HB.out w n b o1 o2 hbv)
            obtain ⟨y, hy, Hy⟩ : ∃ y, x ||| b = y ∧ Hid (x ||| b = y) := ⟨_, rfl, rfl⟩
            rw [hy] at hor
            have cT : wc.cell? ⟨N, i, none⟩ = some (.slice (some ⟨mb2 i, 0, none⟩) m1 m1) := by rw [← HNe.out, Hm1.out]; exact hTc.out.cellT (by omega) (by omega)
            have cX : wc.cell? ⟨mb2 i, 1, none⟩ = some (.int .u32 (x : Int)) := by have := hTc.out.cell (i := i) (m := 1) (by omega) (by omega); rw [gst_at] at this; exact this
            have cF := hTc.out.frozen (i := i) (by omega) 1
            have hne1 : mb2 i ≠ N := by have := hTc.out.lo i (by omega); rw [HNe.out] at this; omega
            have hm1' : (1 : Int) < m1 := by have := Hm1.out; omega
            have HN := hid (show GTab w (wc.drew.setCell ⟨mb2 i, 1, none⟩ (.int .u32 (y : Int))) s.size (i + 1) (gst V 1 i (fold1 s i (R.take (q + 1)))) mb2 from by
              rw [hfs.out, hx, hbv, hy]
              exact (hTc.out.dn 1).to (by omega) _ rfl)
            clear hTc hTa hT hwc hrx hx hy hbv hne1 hne2 hxl hbl o1 o2 HV HM H
            go_region_with (go_at_call 34; refine (HBn.out _).mono ?_; rintro e w' ⟨rfl, rfl⟩)
            all_goals
              go_wp2_with fail
              go_roundw
              case rel => exact ⟨q + 1, by omega, by go_num, HN⟩
              case measure => simp [intOf]; omega
          · have he1 := eq_false' he
            have hfs := hid (show fold1 s i (R.take (q + 1)) = fold1 s i (R.take q) by rw [hsn, fold1_snoc, con1, if_neg he, Nat.or_zero])
            clear hsn he hT
            go_wp2_with fail
            go_quiet (fail)
            go_wp2_with fail
            go_roundw
            case rel => exact ⟨q + 1, by omega, by go_num, hid (by rw [hfs.out]; exact (hTa.out _).dn nq)⟩
            case measure => simp [intOf]; omega
        · have hqe : R.take q = R := List.take_of_length_le (by omega)
          have HT2 := hid (show GTab w wr s.size (i + 1) (gst V 1 (i + 1) 0) mb2 from by
            have h := hT.out
            rw [hqe, HV.out.one i hlt, gst_next] at h
            exact h)
          clear hT hqe
          go_wp2_with fail
          go_roundw
          case rel => exact ⟨i + 1, mb2, by omega, by go_num, HT2⟩
          case measure => simp [intOf]; omega
    · have hie : i = s.size := by omega
      have HT2 := hid (show GTab w wr s.size s.size (gst V 2 0 0) mb from by
        have h := hT.out
        rw [hie] at h
        exact h.congr fun i m hi hm => gst_line V 1 s.size (by omega) (by omega) hm hi)
      have hlt' : ¬ (i : Int) < s.size := by omega
      clear hT hie HM
      go_wp2_with fail
      go_loopw [10] (fun n wr => ∃ k : Nat, 2 ≤ k ∧ k ≤ s.size + 1 ∧ n = .int .i64 k ∧ Hid (GTab w wr s.size s.size (gst V k 0 0) mb)) (fun n _ => s.size + 2 - (intOf n).toNat)
      case atStart => exact ⟨2, by omega, by omega, rfl, HT2⟩
      case round =>
        clear HT2
        obtain ⟨n, hn2, hns, rfl, hT⟩ := hrel
        by_cases hnl : n ≤ s.size
        · have hnl' : (n : Int) ≤ s.size := by omega
          go_wp2_with fail
          go_loopw [11] (fun i wr => ∃ k : Nat, k + n ≤ s.size + 1 ∧ i = .int .i64 k ∧ Hid (GTab w wr s.size s.size (gst V n k 0) mb)) (fun i _ => s.size + 1 - (intOf i).toNat)
          case atStart => exact ⟨0, by omega, rfl, hT⟩
          case round =>
            clear hT
            obtain ⟨i, hin, rfl, hT⟩ := hrel
            by_cases hil : i + n ≤ s.size
            · have hil' : (i : Int) + n ≤ s.size := by omega
              go_wp2_with fail
              go_loopw [12] (fun k wr => ∃ q : Nat, 1 ≤ q ∧ q ≤ n ∧ k = .int .i64 q ∧ Hid (GTab w wr s.size s.size (gst V n i (fold2 R V i n (q - 1))) mb)) (fun k _ => n - (intOf k).toNat)
              case atStart => exact ⟨1, by omega, by omega, rfl, hT⟩
              case round =>
                clear hT
                obtain ⟨q, hq1, hqn, rfl, hT⟩ := hrel
                by_cases hql : q < n
                · have hql' : (q : Int) < n := by omega
                  have HF2 := hid (show fold2 R V i n q = foldR (V i q) (V (i + q) (n - q)) (fold2 R V i n (q - 1)) R by
                    obtain ⟨p, rfl⟩ : ∃ p, q = p + 1 := ⟨q - 1, by omega⟩
                    rw [fold2_succ]; rfl)
                  have HFl := hid (fold2_lt R V i n HV.out.ok (q - 1))
                  obtain ⟨F, hF⟩ : ∃ F, fold2 R V i n (q - 1) = F := ⟨_, rfl⟩
                  rw [hF] at HF2 HFl hT
                  clear hF
                  go_wp2_with fail
                  go_loopw [81] (fun j wr => ∃ p : Nat, p ≤ R.length ∧ j = .int .i64 p ∧ Hid (GTab w wr s.size s.size (gst V n i (foldR (V i q) (V (i + q) (n - q)) F (R.take p))) mb)) (fun j _ => R.length - (intOf j).toNat)
                  case atStart => exact ⟨0, by omega, rfl, hT⟩
                  case round =>
                    clear hT
                    obtain ⟨p, hp, rfl, hT⟩ := hrel
                    by_cases hpl : p < R.length
                    · have hpl' : (p : Int) < R.length := by omega
                      obtain ⟨r, hr⟩ : ∃ r, R[p]? = some r := ⟨_, List.getElem?_eq_getElem hpl⟩
                      have hok := HV.out.ok r (List.mem_of_getElem? hr)
                      obtain ⟨g, o, hA, hg, hcl⟩ := (H.out.kept (w' := wr) (fun k hk => hT.out.since.block k (by rw [HNe.out]; exact hk))) (by intro e; simp [e] at hpl)
                      obtain ⟨q0, q1⟩ := hcl p r hr
                      have hsn := take_snoc hr
                      have hFR : foldR (V i q) (V (i + q) (n - q)) F (R.take (p + 1)) = foldR (V i q) (V (i + q) (n - q)) F (R.take p) ||| con2 (V i q) (V (i + q) (n - q)) r := by rw [hsn, foldR_snoc]
                      have hxl := foldR_lt (V i q) (V (i + q) (n - q)) (R.take p) F (fun r hr => HV.out.ok r (List.mem_of_mem_take hr)) HFl.out
                      obtain ⟨X, hX⟩ : ∃ X, foldR (V i q) (V (i + q) (n - q)) F (R.take p) = X := ⟨_, rfl⟩
                      rw [hX] at hFR hxl hT
                      obtain ⟨rn, st⟩ := r
                      simp only at q0 q1
                      obtain ⟨o1, o2, o3⟩ := hok
                      simp only at o1 o2 o3
                      subst hA
                      clear hcl hr hsn hX
                      obtain ⟨e, he, He⟩ : ∃ e : Nat, (i : Int) + q = e ∧ Hid (e = i + q) := ⟨i + q, by omega, rfl⟩
                      obtain ⟨d, hd, Hd⟩ : ∃ d : Nat, (n : Int) - q = d ∧ Hid (d = n - q) := ⟨n - q, by omega, rfl⟩
                      have hee : e = i + q := He.out
                      have hdd : d = n - q := Hd.out
                      obtain ⟨m1, hm1⟩ : ∃ m1, s.size - i + 1 = m1 := ⟨_, rfl⟩
                      obtain ⟨m2, hm2⟩ : ∃ m2, s.size - e + 1 = m2 := ⟨_, rfl⟩
                      have hx := HV.out.lt i q
                      have hy := HV.out.lt e d
                      obtain ⟨x, hxe⟩ : ∃ x, V i q = x := ⟨_, rfl⟩
                      obtain ⟨y, hye⟩ : ∃ y, V e d = y := ⟨_, rfl⟩
                      rw [hxe] at hx
                      rw [hye] at hy
                      have hVe : V (i + q) (n - q) = y := by rw [← hee, ← hdd]; exact hye
                      obtain ⟨Z, hZ⟩ : ∃ Z, foldR (V i q) (V (i + q) (n - q)) F (R.take (p + 1)) = Z := ⟨_, rfl⟩
                      rw [hZ, hxe, hVe] at hFR
                      have hFk := hFR
                      have HZ := hid hZ
                      clear hFR hVe hZ
                      have hTb := hid (hT.out.alloc (.cells #[.int .u8 (rn : Int), .string st] 41))
                      have b0 : (wr.alloc (.cells #[.int .u8 (rn : Int), .string st] 41)).cell? ⟨wr.heap.size, 0, none⟩ = some (.int .u8 (rn : Int)) := by go_simp
                      have b1 : (wr.alloc (.cells #[.int .u8 (rn : Int), .string st] 41)).cell? ⟨wr.heap.size, 1, none⟩ = some (.string st) := by go_simp
                      have cX0 := hTb.out.cell (i := i) (m := q) (by omega) (by omega)
                      rw [gst_old V n i X hq1 hql, hxe] at cX0
                      have cY0 := hTb.out.cell (i := e) (m := d) (by omega) (by omega)
                      rw [gst_old V n i X (by omega) (by omega), hye] at cY0
                      have cT0 := hTb.out.cellT (i := i) (by omega) (Nat.le_refl _)
                      have cE0 := hTb.out.cellT (i := e) (by omega) (Nat.le_refl _)
                      have cW0 := hTb.out.cell (i := i) (m := n) (by omega) (by omega)
                      rw [gst_at] at cW0
                      have cF0 := hTb.out.frozen (i := i) (by omega) n
                      rw [HNe.out, hm1] at cT0
                      rw [HNe.out, hm2] at cE0
                      have i1 : (i : Int) < s.size := by omega
                      have i2 : (e : Int) < s.size := by omega
                      have i3 : (q : Int) < m1 := by omega
                      have i4 : (d : Int) < m2 := by omega
                      have i5 : (n : Int) < m1 := by omega
                      clear hT hee hdd HF2 HFl hm1 hm2
                      rcases o3 with ⟨z1, _, _⟩ | ⟨z1, z2, z3, z4, z5⟩
                      · have hz : (st.size : Int) = 1 := by omega
                        have HFR := hid (show Z = X by
                          rw [hFk, con2, if_neg (by rintro ⟨h, _⟩; simp only at h; omega), Nat.or_zero])
                        clear hFk hxe hye
                        obtain ⟨rx, hrx⟩ : ∃ rx, wr.heap.size = rx := ⟨_, rfl⟩
                        obtain ⟨wb, hwb⟩ : ∃ wb, wr.alloc (.cells #[.int .u8 (rn : Int), .string st] 41) = wb := ⟨_, rfl⟩
                        rw [hrx, hwb] at b0 b1
                        rw [hwb] at cX0 cY0 cT0 cE0 cW0 cF0 hTb
                        go_wp2_with fail
                        clear hrx hwb
                        go_quiet (fail)
                        have HN := hid (show GTab w (wb.drewN nq) s.size s.size (gst V n i (foldR (V i q) (V (i + q) (n - q)) F (R.take (p + 1)))) mb from by rw [HZ.out, HFR.out]; exact hTb.out.dn nq)
                        go_wp2_with fail
                        go_roundw
                        case rel => exact ⟨p + 1, by omega, by go_num, HN⟩
                        case measure => simp [intOf]; omega
                      · have hz : (st.size : Int) = 2 := by omega
                        have hz' : 0 < st.size := by omega
                        have hz'' : 1 < st.size := by omega
                        obtain ⟨B0, hB0⟩ : ∃ B0, 2 ^ (bt st 0 - 65) = B0 := ⟨_, rfl⟩
                        obtain ⟨B1, hB1⟩ : ∃ B1, 2 ^ (bt st 1 - 65) = B1 := ⟨_, rfl⟩
                        by_cases hx1 : x.testBit (bt st 0 - 65) = true
                        · have ha0 := and_bit hx (show bt st 0 - 65 < 26 by omega) hx1
                          rw [hB0] at ha0
                          have hn0 : ((B0 : Int) != 0) = true := by
                            have : 0 < B0 := by rw [← hB0]; exact Nat.two_pow_pos _
                            simp; omega
                          by_cases hy1 : y.testBit (bt st 1 - 65) = true
                          · have ha1 := and_bit hy (show bt st 1 - 65 < 26 by omega) hy1
                            rw [hB1] at ha1
                            have hn1 : ((B1 : Int) != 0) = true := by
                              have : 0 < B1 := by rw [← hB1]; exact Nat.two_pow_pos _
                              simp; omega
                            obtain ⟨b, hbv⟩ : ∃ b, 2 ^ (rn - 65) = b := ⟨_, rfl⟩
                            have hbl : b < 2 ^ 26 := by rw [← hbv]; exact Nat.pow_lt_pow_right (by omega) (by omega)
                            have hor : bits .or .u32 (X : Int) (b : Int) = ((X ||| b : Nat) : Int) := u32_or_nat X b (by omega) (by omega)
                            have HBn := hid (fun w => HB.out w rn b o1 o2 hbv)
                            have HFR := hid (show Z = X ||| b by
                              rw [hFk, con2, if_pos ⟨by omega, hx1, hy1⟩, hbv])
                            obtain ⟨Y, hY⟩ : ∃ Y, X ||| b = Y := ⟨_, rfl⟩
                            rw [hY] at HFR hor
                            clear hFk hxe hye hbv hbl hY
                            obtain ⟨rx, hrx⟩ : ∃ rx, wr.heap.size = rx := ⟨_, rfl⟩
                            obtain ⟨wb, hwb⟩ : ∃ wb, wr.alloc (.cells #[.int .u8 (rn : Int), .string st] 41) = wb := ⟨_, rfl⟩
                            rw [hrx, hwb] at b0 b1
                            rw [hwb] at cX0 cY0 cT0 cE0 cW0 cF0 hTb
                            go_wp2_with fail
                            clear hrx hwb
                            go_quiet ((go_at_call 34; exact HBq.out _ _ _ _ (by assumption) (by assumption) (by assumption)))
                            go_wp2_with fail
                            have hTc := hid (hTb.out.dn nq)
                            obtain ⟨wc, hwc⟩ : ∃ wc, wb.drewN nq = wc := ⟨_, rfl⟩
                            have b0' : wc.cell? ⟨rx, 0, none⟩ = some (.int .u8 (rn : Int)) := by rw [← hwc]; exact b0
                            have cT1 : wc.cell? ⟨N, i, none⟩ = some (.slice (some ⟨mb i, 0, none⟩) m1 m1) := by rw [← hwc]; exact cT0
                            have cW1 : wc.cell? ⟨mb i, n, none⟩ = some (.int .u32 (X : Int)) := by rw [← hwc]; exact cW0
                            have cF1 : wc.frozen? ⟨mb i, n, none⟩ = false := by rw [← hwc]; exact cF0
                            rw [hwc] at hTc ⊢
                            have HN := hid (show GTab w (wc.drew.setCell ⟨mb i, n, none⟩ (.int .u32 (Y : Int))) s.size s.size (gst V n i (foldR (V i q) (V (i + q) (n - q)) F (R.take (p + 1)))) mb from by
                              rw [HZ.out, HFR.out]
                              exact (hTc.out.dn 1).to (by omega) _ rfl)
                            clear hTc hTb hwc b0 b1 cX0 cY0 cT0 cE0 cW0 cF0 HV H o1 o2 hx1 hy1 ha0 ha1 hn0 hn1 hB0 hB1
                            go_region_with (go_at_call 34; refine (HBn.out _).mono ?_; rintro e w' ⟨rfl, rfl⟩)
                            all_goals
                              go_wp2_with fail
                              go_roundw
                              case rel => exact ⟨p + 1, by omega, by go_num, HN⟩
                              case measure => simp [intOf]; omega
                          · have ha1 := and_none hy (show bt st 1 - 65 < 26 by omega) hy1
                            rw [hB1] at ha1
                            have HFR := hid (show Z = X by
                              rw [hFk, con2, if_neg (by rintro ⟨_, _, h⟩; exact hy1 h), Nat.or_zero])
                            clear hFk hxe hye
                            obtain ⟨rx, hrx⟩ : ∃ rx, wr.heap.size = rx := ⟨_, rfl⟩
                            obtain ⟨wb, hwb⟩ : ∃ wb, wr.alloc (.cells #[.int .u8 (rn : Int), .string st] 41) = wb := ⟨_, rfl⟩
                            rw [hrx, hwb] at b0 b1
                            rw [hwb] at cX0 cY0 cT0 cE0 cW0 cF0 hTb
                            go_wp2_with fail
                            clear hrx hwb
                            go_quiet ((go_at_call 34; exact HBq.out _ _ _ _ (by assumption) (by assumption) (by assumption)))
                            have HN := hid (show GTab w (wb.drewN nq) s.size s.size (gst V n i (foldR (V i q) (V (i + q) (n - q)) F (R.take (p + 1)))) mb from by rw [HZ.out, HFR.out]; exact hTb.out.dn nq)
                            go_wp2_with fail
                            go_roundw
                            case rel => exact ⟨p + 1, by omega, by go_num, HN⟩
                            case measure => simp [intOf]; omega
                        · have ha0 := and_none hx (show bt st 0 - 65 < 26 by omega) hx1
                          rw [hB0] at ha0
                          have HFR := hid (show Z = X by
                            rw [hFk, con2, if_neg (by rintro ⟨_, h, _⟩; exact hx1 h), Nat.or_zero])
                          clear hFk hxe hye
                          obtain ⟨rx, hrx⟩ : ∃ rx, wr.heap.size = rx := ⟨_, rfl⟩
                          obtain ⟨wb, hwb⟩ : ∃ wb, wr.alloc (.cells #[.int .u8 (rn : Int), .string st] 41) = wb := ⟨_, rfl⟩
                          rw [hrx, hwb] at b0 b1
                          rw [hwb] at cX0 cY0 cT0 cE0 cW0 cF0 hTb
                          go_wp2_with fail
                          clear hrx hwb
                          go_quiet ((go_at_call 34; exact HBq.out _ _ _ _ (by assumption) (by assumption) (by assumption)))
                          have HN := hid (show GTab w (wb.drewN nq) s.size s.size (gst V n i (foldR (V i q) (V (i + q) (n - q)) F (R.take (p + 1)))) mb from by rw [HZ.out, HFR.out]; exact hTb.out.dn nq)
                          go_wp2_with fail
                          go_roundw
                          case rel => exact ⟨p + 1, by omega, by go_num, HN⟩
                          case measure => simp [intOf]; omega
                    · have hpe : R.take p = R := List.take_of_length_le (by omega)
                      have HT2 := hid (show GTab w wr s.size s.size (gst V n i (fold2 R V i n (q + 1 - 1))) mb from by
                        have h := hT.out
                        rw [hpe, ← HF2.out] at h
                        exact h)
                      clear hT hpe
                      go_wp2_with fail
                      go_roundw
                      case rel => exact ⟨q + 1, by omega, by omega, by go_num, HT2⟩
                      case measure => simp [intOf]; omega
                · have hqe : q = n := by omega
                  have HT2 := hid (show GTab w wr s.size s.size (gst V n (i + 1) 0) mb from by
                    have h := hT.out
                    rw [hqe, HV.out.two i n hn2 hil, gst_next] at h
                    exact h)
                  clear hT hqe
                  go_wp2_with fail
                  go_roundw
                  case rel => exact ⟨i + 1, by omega, by go_num, HT2⟩
                  case measure => simp [intOf]; omega
            · have HT2 := hid (show GTab w wr s.size s.size (gst V (n + 1) 0 0) mb from hT.out.congr fun i' m hi hm => gst_line V n i (by omega) (by omega) hm hi)
              clear hT
              go_wp2_with fail
              go_roundw
              case rel => exact ⟨n + 1, by omega, by omega, by go_num, HT2⟩
              case measure => simp [intOf]; omega
        · have hne : n = s.size + 1 := by omega
          have HT2 := hid (show GTab w wr s.size s.size (gst V (s.size + 1) 0 0) mb from by rw [← hne]; exact hT.out)
          clear hT hne
          go_wp2_with fail
          go_ret
          exact ⟨by rw [HNe.out]; rfl, mb, HT2.out⟩
end Go.Proofs.Ythdckapielbonaa

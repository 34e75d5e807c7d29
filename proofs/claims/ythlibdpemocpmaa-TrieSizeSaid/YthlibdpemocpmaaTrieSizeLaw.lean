/- letterbecklaw1.TrieSize returns true at all words: the walk. -/
import Derived.Test.YthlibdpemocpmaaTrieOrderLaw
import Derived.Test.YthlibdpemocpmaaAlike
namespace Go.Proofs.Ythlibdpemocpmaa
set_option linter.unusedVariables false
set_option linter.unusedSimpArgs false
open Go.RowKit

theorem al_exists (f g : Nat → Nat) (p q : Nat) : ∃ r, Al f g p q r := by
  have key : ∀ n, n ≤ p → n ≤ q → (∀ j, j < n → f j = g j) ∨ ∃ r, Al f g p q r := by
    intro n
    induction n with
    | zero => intro _ _; exact .inl fun j hj => by omega
    | succ n ih =>
      intro h1 h2
      rcases ih (by omega) (by omega) with h | h
      · by_cases e : f n = g n
        · exact .inl fun j hj => by
            by_cases e2 : j = n
            · subst e2; exact e
            · exact h j (by omega)
        · exact .inr ⟨n, by omega, by omega, h, fun h3 => e h3.2.2⟩
      · exact .inr h
  rcases key (min p q) (by omega) (by omega) with h | h
  · exact ⟨min p q, by omega, by omega, h, fun h3 => by omega⟩
  · exact h

/-- The words in their order. -/
def sortedW (ws : List ByteArray) : List ByteArray := (List.range ws.length).map fun i => wat ws (ordN ws i)
theorem sortedW_len (ws : List ByteArray) : (sortedW ws).length = ws.length := by simp [sortedW]
theorem sortedW_at {ws : List ByteArray} {i : Nat} (hi : i < ws.length) : wat (sortedW ws) i = wat ws (ordN ws i) := by simp [wat, sortedW, hi]
theorem sortedW_nodes {ws : List ByteArray} (hW : WAll ws) : (nodesTo (sortedW ws) ws.length).length = (nodesTo ws ws.length).length := by
  have := nodes_same (vs := sortedW ws) (ws := ws) fun s => by
    rw [sortedW_len]
    constructor
    · rintro ⟨m, h1, rfl⟩
      exact ⟨ordN ws m, (ordN_get hW h1).2, (sortedW_at h1).symm⟩
    · rintro ⟨m, h1, rfl⟩
      have h2 : (m : Int) ∈ ordW ws := (ordW_mem (wall_dist hW) (wall_size hW)).2 ⟨m, h1, rfl⟩
      obtain ⟨i, hi, h3⟩ := List.getElem_of_mem h2
      have hl := ordW_len (wall_dist hW) (wall_size hW)
      have hi' : i < ws.length := by omega
      have h4 := (ordN_get hW hi').1
      rw [List.getElem?_eq_getElem hi, h3] at h4
      injection h4 with h4
      have h5 : m = ordN ws i := by omega
      exact ⟨i, hi', by rw [sortedW_at hi', ← h5]⟩
  rw [sortedW_len] at this
  exact this

/-- What the loop over the sorted words keeps. -/
def SzSt (ws : List ByteArray) (i : Nat) (last : ByteArray) (V : Nat) : Prop :=
  V = (nodesTo (sortedW ws) i).length ∧ ((i = 0 ∧ last.size = 0) ∨ (0 < i ∧ last = wat (sortedW ws) (i - 1)))
theorem szst_start (ws : List ByteArray) : SzSt ws 0 ByteArray.empty 1 := ⟨rfl, .inl ⟨rfl, rfl⟩⟩
theorem szst_step {ws : List ByteArray} (hW : WAll ws) {i V r : Nat} {last s : ByteArray} (hi : i < ws.length) (h : SzSt ws i last V) (hs : wat ws (ordN ws i) = s) (hr : Al (bt last) (bt s) last.size s.size r) :
    SzSt ws (i + 1) s (V + s.size - r) := by
  have e := sortedW_at hi
  have := nodes_step (vs := sortedW ws) (i := i) (r := r) (by rw [sortedW_len]; exact hi) (fun a b h1 h2 => by
    rw [sortedW_len] at h2
    rw [sortedW_at h2, sortedW_at (by omega)]
    exact ordN_bef hW h1 h2) last h.2 (by rw [e, hs]; exact hr)
  have h2 := hr.2.1
  refine ⟨by rw [this, ← h.1, e, hs]; omega, .inr ⟨by omega, ?_⟩⟩
  rw [Nat.add_sub_cancel, e, hs]
theorem szst_le {ws : List ByteArray} (hW : WAll ws) {i V : Nat} {last : ByteArray} (hi : i ≤ ws.length) (h : SzSt ws i last V) : V ≤ 100 := by
  have := nodesTo_le (ws := sortedW ws) (k := i) fun j hj => by
    rw [sortedW_at (by omega)]
    exact wall_size hW _ (ordN_get hW (by omega)).2
  have := hW.1
  rw [h.1]; omega

set_option maxRecDepth 100000 in
set_option maxHeartbeats 2000000 in
theorem walk_trieSize (A : Option Addr) (c : Nat) (ws : List ByteArray) (W : World) (h : Sl W W.heap.size A (ws.map Value.string)) (hc : ws.length ≤ c) (hz : ∀ k, k < ws.length → (wat ws k).size ≤ maxLen) :
    Calls Try.prog 3 #[.slice A ws.length c] W fun e w' => e = .returned (.bool true) ∧ Below W.heap.size W w' := by
  have HF := hid (fun w => trieFact_true w)
  rcases words_or ws with hW | ⟨x, hx, hW⟩
  · have HO := hid (fun w (hb : Below W.heap.size W w) => trieOrder_ok w A c ws ((h.below hb).mono hb.size) hc hW)
    have HP := hid (fun w (hb : Below W.heap.size W w) => trieSize_ok w A c ws ((h.below hb).mono hb.size) hc hW)
    have hl := ordW_len (wall_dist hW) (wall_size hW)
    have HL := hid hl
    have hl6 := hW.1
    have HG := hid (fun i (hi : i < ws.length) => ordN_get hW hi)
    have HB := hid (fun i k (hk : k < i) (hi : i < ws.length) => ordN_bef hW hk hi)
    have HZ := hid (wall_size hW)
    have HS := hid h
    have HN := hid (sortedW_nodes hW)
    have HW := hid hW
    obtain ⟨N, hN, HNe⟩ : ∃ N, (nodesTo ws ws.length).length = N ∧ Hid ((nodesTo ws ws.length).length = N) := ⟨_, rfl, rfl⟩
    simp only [hN] at HP
    clear hW hz h hl hN
    go_enter Try.func3, Try.ntmps3
    go_wp2_with fail
    refine (HF.out _).mono ?_
    rintro e w1 ⟨rfl, hb1⟩
    go_wp2_with fail
    refine (HP.out _ hb1).mono ?_
    rintro e w1' ⟨rfl, hb1'⟩
    have hb1'' := bch hb1 hb1'
    go_wp2_with fail
    refine (HO.out _ hb1'').mono ?_
    rintro e w2 ⟨A2, c2, rfl, ho2, hb2⟩
    rw [HL.out] at ho2 ⊢
    have hB2 := bch hb1'' hb2
    have hs2 := hid (ho2.slB w2.heap.size (Nat.le_refl _))
    have hsw := hid (HS.out.below hB2)
    have hne : ((ws.length : Int) != ws.length) = false := by simp
    clear hb1 hb2 ho2 HO HF HP hb1' hb1''
    go_wp2_with fail
    go_loopw [7, 8, 9] (fun v a i wr => ∃ (k u V : Nat) (last : ByteArray), k ≤ ws.length ∧ V ≤ 100 ∧ last.size ≤ 8 ∧ v = .int .i64 V ∧ a = .string last ∧ i = .int .i64 k ∧ wr = w2.drewN u ∧ Hid (SzSt ws k last V) ∧ Hid (0 < k → last = wat ws (ordN ws (k - 1)))) (fun _ _ i _ => ws.length - (intOf i).toNat)
    case atStart => exact ⟨0, 0, 1, ByteArray.empty, by omega, by omega, by simp, rfl, rfl, rfl, rfl, szst_start ws, hid fun h => absurd h (Nat.lt_irrefl _)⟩
    case round =>
      obtain ⟨i, u, V, last, hi, hV, hlast, rfl, rfl, rfl, rfl, hSt, hLa⟩ := hrel
      by_cases hlt : i < ws.length
      · have hlt' : (i : Int) < ws.length := by omega
        obtain ⟨g2, o2, hA2, hg2, hcell2⟩ := hs2.out (ints_ne (by rw [HL.out]; omega))
        obtain ⟨g, o, hA, hg, hcell⟩ := hsw.out (by intro e; simp at e; simp [e] at hlt)
        obtain ⟨hgi, hmi⟩ := HG.out i hlt
        have qi := hcell2 i _ (ints_get' hgi)
        have hbef : 0 < i → Bef (bt last) last.size (bt (wat ws (ordN ws i))) (wat ws (ordN ws i)).size := fun h0 => by rw [hLa.out h0]; exact HB.out i (i - 1) (by omega) hlt
        obtain ⟨m, hm, Hm⟩ : ∃ m, ordN ws i = m ∧ Hid (ordN ws i = m) := ⟨_, rfl, rfl⟩
        rw [hm] at qi hmi hbef
        have ri := hcell m _ (wat_get hmi)
        obtain ⟨s, hs, Hs⟩ : ∃ s, wat ws m = s ∧ Hid (wat ws m = s) := ⟨_, rfl, rfl⟩
        have hsz := HZ.out m hmi
        rw [hs] at ri hsz hbef
        have hmi' : (m : Int) < ws.length := by omega
        have hin := hid (fun w => in_true w (m : Int) 0 ((ws.length : Int) - 1) (by omega) (by omega))
        obtain ⟨r, hr⟩ := al_exists (bt last) (bt s) last.size s.size
        have hal := hid (fun w => alike_any w last s r (by omega) (by omega) hr)
        have Hn := hid (szst_step HW.out hlt hSt.out (by rw [Hm.out, Hs.out]) hr)
        have hVn := szst_le HW.out (show i + 1 ≤ ws.length from hlt) Hn.out
        have hr2 := hr.2.1
        have HLn := hid (fun (_ : 0 < i + 1) => (show s = wat ws (ordN ws (i + 1 - 1)) by rw [Nat.add_sub_cancel, Hm.out, Hs.out]))
        obtain ⟨Z, hZ, hZn⟩ : ∃ Z : Nat, (V : Int) + s.size - r = Z ∧ Z = V + s.size - r := ⟨V + s.size - r, by omega, rfl⟩
        rw [← hZn] at Hn hVn
        subst hA hA2
        clear hm hs hgi hcell hcell2 hr hZn
        go_wp2_with fail
        refine (hin.out _).mono ?_
        rintro e w3 ⟨rfl, rfl⟩
        by_cases h0 : 0 < i
        · have h0' : (0 : Int) < i := by omega
          have hbb := hid (fun w => before_any w last s (by omega) (by omega) true ⟨fun _ => hbef h0, fun _ => rfl⟩)
          clear hbef
          go_wp2_with fail
          refine (hbb.out _).mono ?_
          rintro e w3 ⟨rfl, u3, rfl⟩
          go_wp2_with fail
          refine (hal.out _).mono ?_
          rintro e w3 ⟨rfl, u4, rfl⟩
          go_wp2_with fail
          go_roundw
          case rel => exact ⟨i + 1, _, Z, s, by omega, hVn, hsz, by go_num, rfl, by go_num, rfl, Hn, HLn⟩
          case measure => simp [intOf]; omega
        · have h0' : ¬ (0 : Int) < i := by omega
          have h0'' : decide ((0 : Int) < i) = false := by simp; omega
          clear hbef
          go_wp2_with fail
          refine (hal.out _).mono ?_
          rintro e w3 ⟨rfl, u4, rfl⟩
          go_wp2_with fail
          go_roundw
          case rel => exact ⟨i + 1, _, Z, s, by omega, hVn, hsz, by go_num, rfl, by go_num, rfl, Hn, HLn⟩
          case measure => simp [intOf]; omega
      · have hlt' : ¬ (i : Int) < ws.length := by omega
        have hie : i = ws.length := by omega
        have hVN : V = N := by
          have := hSt.out.1
          rw [this, hie, HN.out, HNe.out]
        subst hVN
        have hvv : ((V : Int) == V) = true := by simp
        clear hie
        go_wp2_with fail
        go_ret
        exact ⟨rfl, below_dn hB2 _⟩
  · have HO := hid (fun w (hb : Below W.heap.size W w) => trieSize_bad w A c ws ((h.below hb).mono hb.size) hc hz x hW)
    clear h hz hW
    go_enter Try.func3, Try.ntmps3
    go_wp2_with fail
    refine (HF.out _).mono ?_
    rintro e w1 ⟨rfl, hb1⟩
    go_wp2_with fail
    refine (HO.out _ hb1).mono ?_
    rintro e w2 ⟨rfl, hb2⟩
    go_wp2_with fail
    go_ret
    exact ⟨rfl, bch hb1 hb2⟩
end Go.Proofs.Ythlibdpemocpmaa

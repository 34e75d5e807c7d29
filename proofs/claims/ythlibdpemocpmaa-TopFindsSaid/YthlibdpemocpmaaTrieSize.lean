/- (*node).size: how many beginnings go on from a node; trie.Size. -/
import Derived.Test.YthlibdpemocpmaaTrieGrow
namespace Go.Proofs.Ythlibdpemocpmaa
set_option linter.unusedVariables false
set_option linter.unusedSimpArgs false
open Go.RowKit Go.Maps

theorem grown_of_below {w w' : World} (h : Below w.heap.size w w') : w.grownBy w' none := ⟨h.os, h.tape, h.output, h.size, fun k hk _ => h.block k hk⟩

/-- An iterator in block r over the map in block b: what is still to come. -/
def PRange (w : World) (b r n : Nat) (F : Nat → Option Nat) (left : Nat → Bool) (cnt : Nat) : Prop :=
  ∃ (D : DataW Unit) (left' : Lit → Bool), w.ranges Try.prog 5 ptrElem b r n D left' cnt ∧
    (∀ c, c < 256 → (F c = none → Maps.has D (kb c) = false) ∧ ∀ x, F c = some x → Maps.has D (kb c) = true ∧ ∀ zd, D.atKey (kb c) zd = .lit (.int .i64 (x : Int))) ∧ ∀ c, left c = left' (kb c)

section
variable {w w' : World} {b r n cnt : Nat} {F : Nat → Option Nat} {left : Nat → Bool}
theorem PRange.kept {row : Option Nat} (h : PRange w b r n F left cnt) (hg : w.grownBy w' row) (h1 : some b ≠ row) (h2 : some r ≠ row) : PRange w' b r n F left cnt := by
  obtain ⟨D, l, h3, h4⟩ := h
  exact ⟨D, l, h3.kept hg h1 h2, h4⟩
theorem PRange.left_eq (h : PRange w b r n F left cnt) : w.rangeLeft b r = cnt := by
  obtain ⟨D, l, h3, h4⟩ := h
  exact h3.left_eq
end

section
variable {ops : Array Oper} {rest : List Oper} {o : Oper} {a : Act} {Q : Exit → Act → World → Prop} (w : World)

theorem wp_range_ptr (hg : o.guard = none) (m : Operand) (hop : o.op = Op.range 56 m) (b n : Nat) (F : Nat → Option Nat) (hm : a.eval m = .map (some b)) (hP : PMap w b n F)
    (hK : ∀ w' left cnt, PRange w' b w.heap.size n F left cnt → (∀ c, c < 256 → F c ≠ none → left c = true) → w.grownBy w' none → w'.heap.size = w.heap.size + 1 → wpList Try.prog ops Q rest (a.put o.dst (.pointer (some ⟨w.heap.size, 0, none⟩))) w') :
    wpList Try.prog ops Q (o :: rest) a w := by
  obtain ⟨D, hown, hD⟩ := hP
  refine wpList_range_own w hg m 56 hop 5 52 lawByte Try.underlying56 ptrElem b n D hm hown ?_
  intro w' h1 h2 h3
  refine hK w' (fun c => Maps.has D (kb c)) _ ⟨D, _, h1, hD, fun c => rfl⟩ (fun c hc hF => ?_) h2 h3
  cases e : F c with
  | none => exact absurd e hF
  | some x => exact ((hD c hc).2 x e).1

theorem wp_next_ptr (hg : o.guard = none) (it : Operand) (hop : o.op = Op.next it false) (b r n : Nat) (F : Nat → Option Nat) (left : Nat → Bool) (cnt : Nat)
    (hit : a.eval it = .pointer (some ⟨r, 0, none⟩)) (h : PRange w b r n F left cnt)
    (hDone : (∀ c, left c = false) → wpList Try.prog ops Q rest (a.put o.dst (.tuple #[.bool false])) w)
    (hMore : ∀ (c y : Nat) (w' : World) (left' : Nat → Bool) (cnt' : Nat), c < 256 → F c = some y → left c = true → (∀ z, left' z = (left z && !(z == c))) → PRange w' b r n F left' cnt' → cnt' < cnt →
      w.grownBy w' (some r) → w'.heap.size = w.heap.size → (Instr.entry (.pointer (some ⟨r, 0, none⟩))).run Try.prog w' = .ok (.tuple #[.int .u8 (c : Int), .pointer (some ⟨y, 0, none⟩)]) w' → wpList Try.prog ops Q rest (a.put o.dst (.tuple #[.bool true, .int .u8 (c : Int), .pointer (some ⟨y, 0, none⟩)])) w') :
    wpList Try.prog ops Q (o :: rest) a w := by
  obtain ⟨D, l, hr, hD, hl⟩ := h
  refine wpList_next_ranges w hg it hop 5 lawByte ptrElem (Value.int .u8) (fun q => Value.pointer (nptr q)) (fun key kl hkey => by obtain ⟨x, rfl, _⟩ := Maps.keyOf_int_inv Try.underlying5 hkey; exact ⟨x, rfl⟩)
    (fun v y hv => by obtain ⟨q, rfl, _⟩ := ptrElem_inv hv; exact ⟨q, rfl⟩) b r n D l cnt hit hr (fun _ h0 => hDone fun c => by rw [hl]; exact h0 _) ?_
  intro x q kl y w' cnt' hkey hlk hv hat hrg hlt hgr hsz hen
  obtain ⟨x', ex, rfl, hwx⟩ := Maps.keyOf_int_inv Try.underlying5 hkey
  injection ex with _ ex
  subst ex
  obtain ⟨c, rfl, hc⟩ : ∃ c : Nat, x = (c : Int) ∧ c < 256 := by
    simp only [Lit.wf, Bool.and_eq_true, decide_eq_true_eq] at hwx
    have e1 : IntKind.u8.min = 0 := by decide
    have e2 : IntKind.u8.max = 255 := by decide
    exact ⟨x.toNat, by omega, by omega⟩
  have hat' : ∀ zd, D.atKey (kb c) zd = y.1 := hat
  have hhas := has_true_of_atKey hat'
  cases e : F c with
  | none => rw [(hD c hc).1 e] at hhas; cases hhas
  | some z =>
    have h1 := ((hD c hc).2 z e).2 (.lit (.int .i64 0))
    rw [hat'] at h1
    have h2 : ptrElem (Value.pointer (nptr q)) = some (.lit (.int .i64 (z : Int)), y.2) := by rw [hv, ← h1]
    have h3 := ptrElem_is h2
    rw [h3] at hen ⊢
    exact hMore c z w' (fun d => left d && !(d == c)) cnt' hc e (by rw [hl]; exact hlk) (fun _ => rfl) ⟨D, _, hrg, hD, fun d => by
      show (left d && !(d == c)) = (l (kb d) && !(kb d).sameKey (kb c))
      rw [hl, kb_same]⟩ hlt hgr hsz hen
end

theorem vis_le (ps : List (List Nat)) (p : List Nat) (left : Nat → Bool) : vis ps p left ≤ ps.length := List.length_filter_le _ _
theorem cnt_le (ps : List (List Nat)) (p : List Nat) : cnt ps p ≤ ps.length := List.length_filter_le _ _

/-- What the loop over a node's children keeps. -/
structure SizeSt (w wr : World) (B E : Nat) (ps : List (List Nat)) (mb : List Nat → Nat) (wd : List Nat → Int) (p : List Nat) (r : Nat) (left : Nat → Bool) (c : Nat) : Prop where
  trie : TrieAt wr B E ps mb wd
  hE : E ≤ wr.heap.size
  below : Below w.heap.size w wr
  rng : PRange wr (mb p) r ps.length (fun c => if p ++ [c] ∈ ps then some (mb (p ++ [c]) + 1) else none) left c

set_option maxRecDepth 100000 in
set_option maxHeartbeats 2000000 in
theorem size_any : ∀ (d : Nat) (w : World) (B E : Nat) (ps : List (List Nat)) (mb : List Nat → Nat) (wd : List Nat → Int) (hT : TrieAt w B E ps mb wd) (hE : E ≤ w.heap.size) (hC : Clo ps) (hN : ps.Nodup) (hlen : ps.length < 1000)
    (h256 : ∀ p c, p ++ [c] ∈ ps → c < 256) (p : List Nat) (hp : p ∈ ps) (hd : ∀ q ∈ ps, q.length < p.length + d),
    Calls Try.prog 31 #[.pointer (some ⟨mb p + 1, 0, none⟩)] w fun e w' => e = .returned (.int .i64 (cnt ps p)) ∧ Below w.heap.size w w'
  | 0, w, B, E, ps, mb, wd, hT, hE, hC, hN, hlen, h256, p, hp, hd => by have := hd p hp; omega
  | d + 1, w, B, E, ps, mb, wd, hT, hE, hC, hN, hlen, h256, p, hp, hd => by
    have IH := hid (fun w hT hE q hq hd => size_any d w B E ps mb wd hT hE hC hN hlen h256 q hq hd)
    have hP := hT.maps p hp
    have c0 := hT.cell0 p hp
    have HD := hid hd
    have H256 := hid h256
    have HV := hid (fun left h => vis_start hC hN hp (left := left) h)
    have HS : ∀ w0 left c, PRange w0 (mb p) w.heap.size ps.length (fun c => if p ++ [c] ∈ ps then some (mb (p ++ [c]) + 1) else none) left c → w.grownBy w0 none → w0.heap.size = w.heap.size + 1 → SizeSt w w0 B E ps mb wd p w.heap.size left c := fun w0 left c h1 h2 h3 =>
      ⟨hT.kept fun k _ hk => h2.block k (by omega) (by simp), by omega, ⟨h2.os, h2.tape, h2.output, h2.size, fun k hk => h2.block k hk (by simp)⟩, h1⟩
    have HSs := hid HS
    obtain ⟨r, hr⟩ : ∃ r, w.heap.size = r := ⟨_, rfl⟩
    have hmr : mb p + 1 < r := by rw [← hr]; exact Nat.lt_of_lt_of_le (hT.hi p hp) hE
    have hEr : E ≤ r := by omega
    rw [hr] at HSs
    clear hT hE hC hN h256 hd HS
    go_enter Try.func31, Try.ntmps31
    go_wp2_with (first
      | (at_range; go_must (refine wp_range_ptr _ rfl _ rfl (mb p) _ _ rfl hP ?_); intro w0 left0 cnt0 hrg0 hl0 hg0 hs0; rw [hr] at hrg0 hs0; rw [hr]; have H0 := hid (HSs.out w0 left0 cnt0 hrg0 hg0 hs0))
      | fail)
    go_frame
    have HV1 := hid (HV.out left0 fun c hc => hl0 c (H256.out p c hc) (by rw [if_pos hc]; simp))
    clear hrg0 hg0 hs0 hl0 HV
    go_loopw [3] (fun v wr => ∃ (left : Nat → Bool) (c V : Nat), V ≤ 1000 ∧ v = .int .i64 (V : Int) ∧ Hid (V = vis ps p left) ∧ Hid (SizeSt w wr B E ps mb wd p r left c)) (fun _ wr => wr.rangeLeft (mb p) r)
    case atStart => exact ⟨left0, cnt0, 1, by omega, rfl, HV1.out.symm, H0⟩
    case round =>
      clear H0 HV1
      obtain ⟨left, c, V, hV, rfl, hVe, hS⟩ := hrel
      have hrg := hS.out.rng
      go_wp2_with (first
        | (at_next; go_must (refine wp_next_ptr _ rfl _ rfl (mb p) r _ _ left c rfl hrg ?_ ?_))
        | fail)
      · intro hl0
        have hfin : V = cnt ps p := hVe.out.trans (vis_end ps p left hl0)
        subst hfin
        go_wp2_with fail
        go_ret
        exact ⟨rfl, hS.out.below⟩
      · intro c1 y w1 left1 cnt1 hc1 hq hF hl1 hstep hrg1 hlt hg1 hs1 hen
        subst hF
        have hE1 : E ≤ w1.heap.size := by rw [hs1]; exact hS.out.hE
        have hT1 := hS.out.trie.kept (w' := w1) fun k _ hk => hg1.block k (by have := hS.out.hE; omega) (by intro e; injection e with e; omega)
        have hb1 : Below w.heap.size w w1 := hS.out.below.trans ⟨hg1.os, hg1.tape, hg1.output, by omega, fun k hk => hg1.block k (by have := hS.out.below.size; omega) (by intro e; injection e with e; omega)⟩
        have hcall := hid (IH.out w1 hT1 hE1 (p ++ [c1]) hq fun q hq2 => by have := HD.out q hq2; simp; omega)
        have hvs := vis_step ps p c1 hl1 hstep
        have hvl := vis_le ps p left1
        have hrl := hid (hrg.left_eq)
        obtain ⟨C, hC⟩ : ∃ C, cnt ps (p ++ [c1]) = C := ⟨_, rfl⟩
        rw [hC] at hcall hvs
        have HVn := hid (show V + C = vis ps p left1 by rw [hvs, ← hVe.out])
        have hVC : V + C ≤ 1000 := by rw [HVn.out]; omega
        have HN := hid (fun w2 (hb2 : Below w1.heap.size w1 w2) => (show SizeSt w w2 B E ps mb wd p r left1 cnt1 from ⟨hT1.below hE1 hb2, Nat.le_trans hE1 hb2.size, bch hb1 hb2, hrg1.kept (grown_of_below hb2) (by simp) (by simp)⟩))
        clear hvs hvl hC hT1 hE1 hb1 hS hVe hrg hstep hl1 hq hrg1 hg1 hs1
        go_wp2_with fail
        refine hcall.out.mono ?_
        rintro e w2 ⟨rfl, hb2⟩
        have hN := HN.out w2 hb2
        clear hen hcall
        go_wp2_with fail
        go_roundw
        case rel => exact ⟨left1, cnt1, V + C, hVC, by go_num, HVn, hN⟩
        case measure => rw [hN.rng.left_eq, hrl.out]; exact hlt
end Go.Proofs.Ythlibdpemocpmaa

/- cell.Read once more (XRd), with what the body's row owns and the code told. -/
import Derived.Test.YtkodhpjmmiapaaaAll
import Derived.Test.YtkodhpjmmiapaaaWLay
import Derived.Outline
namespace Go.Proofs.Ytkodhpjmmiapaaa
open Go.RowKit
set_option linter.unusedVariables false
set_option linter.unusedSimpArgs false
theorem RowB.take {W : World} {ad : Addr} {c : Nat} {xs : List Nat} (h : RowB W (some ad) c xs) (k c' : Nat) : RowB W (some ad) c' (xs.take k) :=
  ⟨fun e => (by cases e), fun ad' e j u hu => by
    cases e
    refine h.2 ad rfl j u ?_
    simp only [byV, List.getElem?_map, List.getElem?_take] at hu ⊢
    split at hu
    · exact hu
    · cases hu⟩
theorem RowB.drop {W : World} {b o : Nat} {c : Nat} {xs : List Nat} (h : RowB W (some ⟨b, o, none⟩) c xs) (k c' : Nat) : RowB W (some ⟨b, o + k, none⟩) c' (xs.drop k) :=
  ⟨fun e => (by cases e), fun ad' e j u hu => by
    cases e
    have := h.2 _ rfl (k + j) u (by simpa [byV, List.getElem?_drop] using hu)
    rw [Addr.add_lit] at this ⊢
    rwa [Nat.add_assoc]⟩
theorem Read_no (k n : Int) (a : Option Addr) (c L : Nat) (w : World) (ho : outB k n = true ∨ (outB k n = false ∧ L ≠ 17)) (hL : L ≤ maxLen) :
    Calls Try.prog 29 #[.int .i64 k, .int .i64 n, .slice a L c] w fun e w' => (∃ t : Int, ¬ t = 0 ∧ e = .returned (.tuple #[.slice none 0 0, .int .i64 t])) ∧ w = w' := by
  unfold maxLen at hL
  rcases ho with ho | ⟨ho, hne⟩
  · have HO := Lib.hid ho
    clear ho
    go_enter Try.func29, Try.ntmps29
    go_wp2_with fail
    refine (cell_out _ _ _).mono ?_
    rintro e w' ⟨rfl, rfl⟩
    rw [HO.out]
    clear HO
    go_wp2
    go_ret2
    exact ⟨⟨2, by omega, rfl⟩, rfl⟩
  · have HO := Lib.hid ho
    have e1 : ((L : Int) != 17) = true := by simp; omega
    have e2 : ¬ (L : Int) = 17 := by omega
    clear ho
    go_enter Try.func29, Try.ntmps29
    go_wp2_with fail
    refine (cell_out _ _ _).mono ?_
    rintro e w' ⟨rfl, rfl⟩
    rw [HO.out]
    clear HO
    go_wp2
    go_ret2
    exact ⟨⟨4, by omega, rfl⟩, rfl⟩
/-- does a cell's sum fit -/
def fitsB (k n : Nat) (xs : List Nat) : Bool := xs.drop 15 == csumN k n (xs.take 15)
set_option maxRecDepth 100000 in
set_option maxHeartbeats 3200000 in
theorem Read_sum (k n : Nat) (b o c : Nat) (xs : List Nat) (w : World) (hk : k < 65536) (hn : n ≤ 2147483648) (h : RowB w (some ⟨b, o, none⟩) c xs) (hl : xs.length = 17) (hc : 17 ≤ c) (hx : ∀ x ∈ xs, x < 256) (hf : fitsB k n xs = false) :
    Calls Try.prog 29 #[.int .i64 k, .int .i64 n, .slice (some ⟨b, o, none⟩) 17 c] w fun e w' => e = .returned (.tuple #[.slice none 0 0, .int .i64 8]) ∧ Below w.heap.size w w' := by
  have hout : outB k n = false := outB_no.2 ⟨by omega, by omega, by omega, by omega⟩
  have HO := Lib.hid hout
  have x15 : ∀ x ∈ xs.take 15, x < 256 := fun x hm => hx x (List.mem_of_mem_take hm)
  have l15 : (xs.take 15).length = 15 := by rw [List.length_take]; omega
  have l2 : (xs.drop 15).length = 2 := by rw [List.length_drop]; omega
  have hS := fun w' (hb : Below w.heap.size w w') => cell_sum k n (some ⟨b, o, none⟩) c (xs.take 15) w' hk hn ((h.below hb (Nat.le_refl _)).take 15 c) (by rw [l15]; omega) x15
  rw [l15] at hS
  have HS := Lib.hid hS
  have HR := Lib.hid h
  have HX := Lib.hid hx
  have HL := Lib.hid hl
  have HL2 := Lib.hid l2
  have HL15 := Lib.hid l15
  have HX15 := Lib.hid x15
  clear hout h hl hx x15 l15 l2 hS
  go_enter Try.func29, Try.ntmps29
  go_wp2_with fail
  refine (cell_out _ _ _).mono ?_
  rintro e w' ⟨rfl, rfl⟩
  rw [HO.out]
  clear HO
  go_wp2_with fail
  refine wp_region_T (S := (fun W : World => Below w.heap.size w W)) 7 (by kernel_rfl) (Below.refl _ _).drew (fun hHeld => ?_)
  simp only [List.size_toArray, List.length_cons, List.length_nil, Nat.reduceAdd, Array.replicate_succ, Array.replicate_zero, List.push_toArray, List.append_toArray, List.nil_append, List.cons_append]
  refine WT_take (i := 0) (oi := _) (v := ?_) rfl (by kernel_rfl) (fun _ _ _ h => h) (Or.inl ⟨by rfl, ?_⟩) (by assumption) ?_
  rotate_left
  · (intro W hS; (try dsimp only at hS); clear hS; go_simp; with_reducible rfl)
  try simp only [Act.put, List.getElem_toArray, List.getElem_cons_succ, List.getElem_cons_zero, List.setIfInBounds_toArray, List.set_cons_zero, List.set_cons_succ]
  refine WT_take (i := 1) (oi := _) (v := ?_) rfl (by kernel_rfl) (fun _ _ _ h => h) (Or.inl ⟨by rfl, ?_⟩) (by assumption) ?_
  rotate_left
  · (intro W hS; (try dsimp only at hS); clear hS; go_simp; with_reducible rfl)
  try simp only [Act.put, List.getElem_toArray, List.getElem_cons_succ, List.getElem_cons_zero, List.setIfInBounds_toArray, List.set_cons_zero, List.set_cons_succ]
  refine WT_take (i := 2) (oi := _) (v := ?_) rfl (by kernel_rfl) (fun _ _ _ h => h) (Or.inl ⟨by rfl, ?_⟩) (by assumption) ?_
  rotate_left
  · (intro W hS; (try dsimp only at hS); clear hS; go_simp; with_reducible rfl)
  try simp only [Act.put, List.getElem_toArray, List.getElem_cons_succ, List.getElem_cons_zero, List.setIfInBounds_toArray, List.set_cons_zero, List.set_cons_succ]
  refine WT_take (i := 3) (oi := _) (v := ?_) rfl (by kernel_rfl) (fun _ _ _ h => h) (Or.inl ⟨by rfl, ?_⟩) (by assumption) ?_
  rotate_left
  · (intro W hS; (try dsimp only at hS); clear hS; go_simp; with_reducible rfl)
  try simp only [Act.put, List.getElem_toArray, List.getElem_cons_succ, List.getElem_cons_zero, List.setIfInBounds_toArray, List.set_cons_zero, List.set_cons_succ]
  refine WT_take (i := 4) (oi := _) (v := ?_) rfl (by kernel_rfl) (fun _ _ _ h => h) (Or.inl ⟨by rfl, ?_⟩) (by assumption) ?_
  rotate_left
  · (intro W hS; (try dsimp only at hS); clear hS; go_simp; with_reducible rfl)
  try simp only [Act.put, List.getElem_toArray, List.getElem_cons_succ, List.getElem_cons_zero, List.setIfInBounds_toArray, List.set_cons_zero, List.set_cons_succ]
  refine WT_step (i := 5) (o := _) rfl (by kernel_rfl) (fun K hK => ?_)
  go_simp
  go_at_call 40
  refine (HS.out _ hHeld).mono ?_
  rintro e w1 ⟨v1, rfl, hb1, hr1⟩
  have lc := csumN_len k n (xs.take 15)
  obtain ⟨a1, c1, rfl, h1, _⟩ : ∃ a c, v1 = .slice a (csumN k n (xs.take 15)).length c ∧ RowB w1 a c (csumN k n (xs.take 15)) ∧ ∀ ad, a = some ad → ∃ g, ad = ⟨g, 0, none⟩ := own_rowB (by rw [lc]; exact hr1)
  rw [lc]
  clear hr1
  go_wp2_with fail
  refine hK.out _ _ (below_two hHeld hb1) (fun hHeld => ?_)
  clear hK K
  try simp only [Act.put, List.getElem_toArray, List.getElem_cons_succ, List.getElem_cons_zero, List.setIfInBounds_toArray, List.set_cons_zero, List.set_cons_succ]
  refine WT_step (i := 6) (o := _) rfl (by kernel_rfl) (fun K hK => ?_)
  go_simp
  go_at_call 43
  have HEq := slices_Equal (some ⟨b, o + 15, none⟩) a1 (c - 15) c1 (xs.drop 15) (csumN k n (xs.take 15)) w1 ((HR.out.below hHeld (Nat.le_refl _)).drop 15 _) h1 (by rw [HL2.out]; omega) (by rw [lc]; omega)
  rw [HL2.out, lc] at HEq
  rw [show (xs.drop 15 == csumN k n (xs.take 15)) = fitsB k n xs from rfl] at HEq
  refine HEq.mono ?_
  rintro e w2 ⟨rfl, hb2⟩
  go_wp2_with fail
  refine hK.out _ _ (below_two hHeld hb2) (fun hHeld => ?_)
  clear hK K
  try simp only [Act.put, List.getElem_toArray, List.getElem_cons_succ, List.getElem_cons_zero, List.setIfInBounds_toArray, List.set_cons_zero, List.set_cons_succ]
  refine WT_tail (by kernel_rfl) ?_
  simp only [List.drop_succ_cons, List.drop_zero]
  try rw [hf]
  go_wp2
  go_ret2
  exact ⟨rfl, hHeld⟩
/-- the body of a cell -/
def readN (xs : List Nat) : List Nat := (xs.drop 1).take (xs.headD 0)
/-- is a cell made as it may be -/
def formB (xs : List Nat) : Bool := decide (xs.headD 0 ≤ 14) && ((xs.take 15).drop (1 + xs.headD 0)).all fun x => x == 0
/-- what a cell whose sum fits is read as -/
def ReadP (w : World) (xs : List Nat) (e : Ending) (w' : World) : Prop :=
  Below w.heap.size w w' ∧ ((formB xs = false ∧ e = .returned (.tuple #[.slice none 0 0, .int .i64 4])) ∨
    (formB xs = true ∧ ∃ a c, e = .returned (.tuple #[.slice a (readN xs).length c, .int .i64 0]) ∧ w'.ownsRow w.heap.size 5 1 (.slice a (readN xs).length c) (readN xs).length (byV (readN xs))))
set_option maxRecDepth 100000 in
set_option maxHeartbeats 6400000 in
theorem Read_yes (k n : Nat) (b o c : Nat) (xs : List Nat) (w : World) (hk : k < 65536) (hn : n ≤ 2147483648) (h : RowB w (some ⟨b, o, none⟩) c xs) (hl : xs.length = 17) (hc : 17 ≤ c) (hx : ∀ x ∈ xs, x < 256) (hf : fitsB k n xs = true) :
    Calls Try.prog 29 #[.int .i64 k, .int .i64 n, .slice (some ⟨b, o, none⟩) 17 c] w fun e w' => ReadP w xs e w' := by
  have hout : outB k n = false := outB_no.2 ⟨by omega, by omega, by omega, by omega⟩
  have HO := Lib.hid hout
  have x15 : ∀ x ∈ xs.take 15, x < 256 := fun x hm => hx x (List.mem_of_mem_take hm)
  have l15 : (xs.take 15).length = 15 := by rw [List.length_take]; omega
  have l2 : (xs.drop 15).length = 2 := by rw [List.length_drop]; omega
  have hS := fun w' (hb : Below w.heap.size w w') => cell_sum k n (some ⟨b, o, none⟩) c (xs.take 15) w' hk hn ((h.below hb (Nat.le_refl _)).take 15 c) (by rw [l15]; omega) x15
  rw [l15] at hS
  have HS := Lib.hid hS
  have HR := Lib.hid h
  have HX := Lib.hid hx
  have HL := Lib.hid hl
  have HL2 := Lib.hid l2
  have HL15 := Lib.hid l15
  have HX15 := Lib.hid x15
  clear hout h hl hx x15 l15 l2 hS
  obtain ⟨N, hN⟩ : ∃ N, xs.headD 0 = N := ⟨_, rfl⟩
  have hN0 : xs[0]? = some N := by
    have := HL.out
    rcases xs with _ | ⟨x, t⟩
    · simp at this
    · simp at hN; simp [hN]
  have HN := Lib.hid hN
  have k0 := HR.out.2 _ rfl 0 (.int .u8 (N : Nat)) (by simp [byV, hN0])
  rw [Addr.add_lit, Nat.add_zero] at k0
  have hblk : b < w.heap.size := World.block_lt_of_cell? w _ k0
  have N8 := HX.out N (List.mem_of_getElem? hN0)
  clear hN hN0
  go_enter Try.func29, Try.ntmps29
  go_wp2_with fail
  refine (cell_out _ _ _).mono ?_
  rintro e w' ⟨rfl, rfl⟩
  rw [HO.out]
  clear HO
  go_wp2_with fail
  refine wp_region_T (S := (fun W : World => Below w.heap.size w W)) 7 (by kernel_rfl) (Below.refl _ _).drew (fun hHeld => ?_)
  simp only [List.size_toArray, List.length_cons, List.length_nil, Nat.reduceAdd, Array.replicate_succ, Array.replicate_zero, List.push_toArray, List.append_toArray, List.nil_append, List.cons_append]
  refine WT_take (i := 0) (oi := _) (v := ?_) rfl (by kernel_rfl) (fun _ _ _ h => h) (Or.inl ⟨by rfl, ?_⟩) (by assumption) ?_
  rotate_left
  · (intro W hS; (try dsimp only at hS); clear hS; go_simp; with_reducible rfl)
  try simp only [Act.put, List.getElem_toArray, List.getElem_cons_succ, List.getElem_cons_zero, List.setIfInBounds_toArray, List.set_cons_zero, List.set_cons_succ]
  refine WT_take (i := 1) (oi := _) (v := ?_) rfl (by kernel_rfl) (fun _ _ _ h => h) (Or.inl ⟨by rfl, ?_⟩) (by assumption) ?_
  rotate_left
  · (intro W hS; (try dsimp only at hS); clear hS; go_simp; with_reducible rfl)
  try simp only [Act.put, List.getElem_toArray, List.getElem_cons_succ, List.getElem_cons_zero, List.setIfInBounds_toArray, List.set_cons_zero, List.set_cons_succ]
  refine WT_take (i := 2) (oi := _) (v := ?_) rfl (by kernel_rfl) (fun _ _ _ h => h) (Or.inl ⟨by rfl, ?_⟩) (by assumption) ?_
  rotate_left
  · (intro W hS; (try dsimp only at hS); clear hS; go_simp; with_reducible rfl)
  try simp only [Act.put, List.getElem_toArray, List.getElem_cons_succ, List.getElem_cons_zero, List.setIfInBounds_toArray, List.set_cons_zero, List.set_cons_succ]
  refine WT_take (i := 3) (oi := _) (v := ?_) rfl (by kernel_rfl) (fun _ _ _ h => h) (Or.inl ⟨by rfl, ?_⟩) (by assumption) ?_
  rotate_left
  · (intro W hS; (try dsimp only at hS); clear hS; go_simp; with_reducible rfl)
  try simp only [Act.put, List.getElem_toArray, List.getElem_cons_succ, List.getElem_cons_zero, List.setIfInBounds_toArray, List.set_cons_zero, List.set_cons_succ]
  refine WT_take (i := 4) (oi := _) (v := ?_) rfl (by kernel_rfl) (fun _ _ _ h => h) (Or.inl ⟨by rfl, ?_⟩) (by assumption) ?_
  rotate_left
  · (intro W hS; (try dsimp only at hS); clear hS; go_simp; with_reducible rfl)
  try simp only [Act.put, List.getElem_toArray, List.getElem_cons_succ, List.getElem_cons_zero, List.setIfInBounds_toArray, List.set_cons_zero, List.set_cons_succ]
  refine WT_step (i := 5) (o := _) rfl (by kernel_rfl) (fun K hK => ?_)
  go_simp
  go_at_call 40
  refine (HS.out _ hHeld).mono ?_
  rintro e w1 ⟨v1, rfl, hb1, hr1⟩
  have lc := csumN_len k n (xs.take 15)
  obtain ⟨a1, c1, rfl, h1, _⟩ : ∃ a c, v1 = .slice a (csumN k n (xs.take 15)).length c ∧ RowB w1 a c (csumN k n (xs.take 15)) ∧ ∀ ad, a = some ad → ∃ g, ad = ⟨g, 0, none⟩ := own_rowB (by rw [lc]; exact hr1)
  rw [lc]
  clear hr1
  go_wp2_with fail
  refine hK.out _ _ (below_two hHeld hb1) (fun hHeld => ?_)
  clear hK K
  try simp only [Act.put, List.getElem_toArray, List.getElem_cons_succ, List.getElem_cons_zero, List.setIfInBounds_toArray, List.set_cons_zero, List.set_cons_succ]
  refine WT_step (i := 6) (o := _) rfl (by kernel_rfl) (fun K hK => ?_)
  go_simp
  go_at_call 43
  have HEq := slices_Equal (some ⟨b, o + 15, none⟩) a1 (c - 15) c1 (xs.drop 15) (csumN k n (xs.take 15)) w1 ((HR.out.below hHeld (Nat.le_refl _)).drop 15 _) h1 (by rw [HL2.out]; omega) (by rw [lc]; omega)
  rw [HL2.out, lc] at HEq
  rw [show (xs.drop 15 == csumN k n (xs.take 15)) = fitsB k n xs from rfl] at HEq
  refine HEq.mono ?_
  rintro e w2 ⟨rfl, hb2⟩
  go_wp2_with fail
  refine hK.out _ _ (below_two hHeld hb2) (fun hHeld => ?_)
  clear hK K
  try simp only [Act.put, List.getElem_toArray, List.getElem_cons_succ, List.getElem_cons_zero, List.setIfInBounds_toArray, List.set_cons_zero, List.set_cons_succ]
  refine WT_tail (by kernel_rfl) ?_
  simp only [List.drop_succ_cons, List.drop_zero]
  try rw [hf]
  have hbw : b < w.heap.size := hblk
  have k2 := (hHeld.cell (p := ⟨b, o, none⟩) hbw).trans k0
  have HH := Lib.hid hHeld
  clear hHeld
  by_cases h14 : 14 < N
  · have hform : formB xs = false := by unfold formB; rw [HN.out, decide_eq_false (by omega : ¬ N ≤ 14)]; rfl
    have HF := Lib.hid hform
    clear hform
    go_wp2
    go_ret2
    exact ⟨HH.out, .inl ⟨HF.out, rfl⟩⟩
  · go_wp2_with fail
    have hl4 : ((xs.take 15).drop (1 + N)).length = 15 - (1 + N) := by rw [List.length_drop, HL15.out]
    have HA := cell_all (some ⟨b, o + (1 + N), none⟩) (c - (1 + N)) ((xs.take 15).drop (1 + N)) w2 (((HR.out.below HH.out (Nat.le_refl _)).take 15 c).drop (1 + N) _) (by rw [hl4]; omega) (fun x hm => HX15.out x (List.mem_of_mem_drop hm))
    rw [hl4] at HA
    refine HA.mono ?_
    rintro e w3 ⟨rfl, hb3⟩
    obtain ⟨z, hz⟩ : ∃ z, (((xs.take 15).drop (1 + N)).all fun x => x == 0) = z := ⟨_, rfl⟩
    have hform : formB xs = z := by unfold formB; rw [HN.out, decide_eq_true (by omega : N ≤ 14), hz]; rfl
    rw [hz]
    have HF := Lib.hid hform
    have hB3 := below_two HH.out hb3
    clear hform HA hl4 hz
    cases z with
    | false =>
      go_wp2
      go_ret2
      exact ⟨hB3, .inl ⟨HF.out, rfl⟩⟩
    | true =>
      have hl5 : (readN xs).length = N := by
        unfold readN; rw [HN.out, List.length_take, List.length_drop, HL.out]; omega
      have h5 : RowB w3 (some ⟨b, o + 1, none⟩) (c - 1) (readN xs) := by
        unfold readN; rw [HN.out]
        exact ((HR.out.below hB3 (Nat.le_refl _)).drop 1 c).take N _
      have HCl := slices_Clone (some ⟨b, o + 1, none⟩) (c - 1) (readN xs) w3 h5 (by rw [hl5]; omega)
      rw [hl5] at HCl
      have HLN := Lib.hid hl5
      clear h5 hl5
      go_wp2_with fail
      refine HCl.mono ?_
      rintro e w4 ⟨v, rfl, hb4, hr4⟩
      obtain ⟨a2, c2, rfl, h2, _⟩ : ∃ a c, v = .slice a (readN xs).length c ∧ RowB w4 a c (readN xs) ∧ ∀ ad, a = some ad → ∃ g, ad = ⟨g, 0, none⟩ := own_rowB (by rw [HLN.out]; exact hr4)
      have HR2 : Hid (w4.ownsRow w.heap.size 5 1 (.slice a2 (readN xs).length c2) (readN xs).length (byV (readN xs))) := Lib.hid (own_lower (by rw [HLN.out] at hr4 ⊢; exact hr4) hB3.size)
      obtain ⟨M, hM⟩ : ∃ M, (readN xs).length = M := ⟨_, rfl⟩
      rw [hM]
      have HM := Lib.hid hM
      clear h2 hM hr4 HCl
      go_wp2
      go_ret2
      exact ⟨below_two hB3 hb4, .inr ⟨HF.out, a2, c2, by rw [HM.out]; rfl, HR2.out⟩⟩
end Go.Proofs.Ytkodhpjmmiapaaa

/- Package cell: the key and the count as bytes, the sum of a cell, what is out of range. -/
import Derived.Test.YtkodhpjmmiapaaaByt
import Derived.ArgAppend
namespace Go.Proofs.Ytkodhpjmmiapaaa
open Go.RowKit
set_option linter.unusedVariables false
set_option linter.unusedSimpArgs false
/-- a key and a count as bytes -/
def nameN (k n : Nat) : List Nat := litN k 2 ++ litN n 4
theorem nameN_len (k n : Nat) : (nameN k n).length = 6 := by simp [nameN, litN_len]
theorem nameN_lt (k n : Nat) : ∀ x ∈ nameN k n, x < 256 := fun x hx => by
  rcases List.mem_append.1 hx with h | h
  · exact litN_lt _ _ x h
  · exact litN_lt _ _ x h
theorem own_keep {W W' : World} {base : Nat} {e : TypeId} {size : Nat} {v : Value} {k : Nat} {xs : List Value} (h : W.ownsRow base e size v k xs) (hb : Below W.heap.size W W') : W'.ownsRow base e size v k xs := by
  rcases h with ⟨h0, h | ⟨g, cap, cur, h1, h2, h3, h4⟩⟩
  · exact ⟨h0, .inl h⟩
  · exact ⟨h0, .inr ⟨g, cap, cur, h1, h2, (hb.block g (Array.getElem?_eq_some_iff.1 h3).1).trans h3, h4⟩⟩
set_option maxHeartbeats 1600000 in
theorem cell_named (k n : Nat) (w : World) (hk : k < 65536) (hn : n ≤ 2147483648) :
    Calls Try.prog 55 #[.int .i64 k, .int .i64 n] w fun e w' => ∃ v, e = .returned v ∧ Below w.heap.size w w' ∧ w'.ownsRow w.heap.size 5 1 v 6 (byV (nameN k n)) := by
  have HL1 := Lib.hid fun w => hash_Little k 2 w (by omega) (by omega)
  have HL2 := Lib.hid fun w => hash_Little n 4 w (by omega) (by omega)
  go_enter Try.func55, Try.ntmps55
  go_wp2_with fail
  refine (HL1.out _).mono ?_
  rintro e w1 ⟨v1, rfl, hb1, hr1⟩
  go_wp2_with fail
  refine (HL2.out _).mono ?_
  rintro e w2 ⟨v2, rfl, hb2, hr2⟩
  have hr1' := own_keep hr1 hb2
  have l1 := litN_len 2 k
  have l2 := litN_len 4 n
  obtain ⟨a1, c1, rfl, h1, _⟩ : ∃ a c, v1 = .slice a (litN k 2).length c ∧ RowB w2 a c (litN k 2) ∧ ∀ ad, a = some ad → ∃ g, ad = ⟨g, 0, none⟩ := own_rowB (by rw [l1]; exact hr1')
  obtain ⟨a2, c2, rfl, h2, _⟩ : ∃ a c, v2 = .slice a (litN n 4).length c ∧ RowB w2 a c (litN n 4) ∧ ∀ ad, a = some ad → ∃ g, ad = ⟨g, 0, none⟩ := own_rowB (by rw [l2]; exact hr2)
  rw [l1, l2]
  clear hr1 hr1' hr2
  go_wp2_with fail
  have hB : Below w2.heap.size w2 (w2.alloc (.cells #[.slice a1 2 c1, .slice a2 4 c2] 31)) := (Below.refl _ _).alloc (Nat.le_refl _) _
  have HC := slices_Concat w2.heap.size a1 a2 c1 c2 (litN k 2) (litN n 4) _ (by simp) (by rw [l1]; simp) (by rw [l2]; simp) (h1.below hB (Nat.le_refl _)) (h2.below hB (Nat.le_refl _)) (by rw [l1]; omega) (by rw [l1, l2]; omega)
  rw [l1, l2] at HC
  refine HC.mono ?_
  rintro e w3 ⟨v, rfl, hb3, hr3⟩
  go_wp2
  go_ret
  refine ⟨v, rfl, below_two (below_two hb1 hb2) (below_two hB hb3), ?_⟩
  exact own_lower hr3 (by have := hb1.size; have := hb2.size; simp; omega)
/-- what stands behind a cell: the sum of key, count and what stands ahead -/
def csumN (k n : Nat) (xs : List Nat) : List Nat := litN (sumN (nameN k n ++ xs)) 2
theorem csumN_len (k n : Nat) (xs : List Nat) : (csumN k n xs).length = 2 := litN_len _ _
theorem sumN_lt (xs : List Nat) : sumN xs < 65536 := fold_lt _ _ (by omega)
set_option maxHeartbeats 1600000 in
theorem cell_sum (k n : Nat) (a : Option Addr) (c : Nat) (xs : List Nat) (w : World) (hk : k < 65536) (hn : n ≤ 2147483648) (h : RowB w a c xs) (hl : xs.length ≤ 4096) (hx : ∀ x ∈ xs, x < 256) :
    Calls Try.prog 40 #[.int .i64 k, .int .i64 n, .slice a xs.length c] w fun e w' => ∃ v, e = .returned v ∧ Below w.heap.size w w' ∧ w'.ownsRow w.heap.size 5 1 v 2 (byV (csumN k n xs)) := by
  have HN := Lib.hid fun w => cell_named k n w hk hn
  have HR := Lib.hid h
  have HX := Lib.hid hx
  obtain ⟨L, hL⟩ : ∃ L, L = xs.length := ⟨_, rfl⟩
  have HL := Lib.hid hL
  rw [← hL] at hl ⊢
  clear hL h hx
  go_enter Try.func40, Try.ntmps40
  go_wp2_with fail
  refine (HN.out _).mono ?_
  rintro e w1 ⟨v1, rfl, hb1, hr1⟩
  have l1 := nameN_len k n
  obtain ⟨a1, c1, rfl, h1, _⟩ : ∃ a c, v1 = .slice a (nameN k n).length c ∧ RowB w1 a c (nameN k n) ∧ ∀ ad, a = some ad → ∃ g, ad = ⟨g, 0, none⟩ := own_rowB (by rw [l1]; exact hr1)
  rw [l1]
  clear hr1
  go_wp2_with fail
  have hB : Below w1.heap.size w1 (w1.alloc (.cells #[.slice a1 6 c1, .slice a L c] 31)) := (Below.refl _ _).alloc (Nat.le_refl _) _
  have HC := slices_Concat w1.heap.size a1 a c1 c (nameN k n) xs _ (by simp) (by rw [l1]; simp) (by rw [← HL.out]; simp) (h1.below hB (Nat.le_refl _)) ((HR.out.below hb1 (Nat.le_refl _)).below hB (Nat.le_refl _)) (by rw [l1]; omega) (by rw [l1, ← HL.out]; omega)
  rw [l1, ← HL.out] at HC
  refine HC.mono ?_
  rintro e w2 ⟨v2, rfl, hb2, hr2⟩
  have l2 : (nameN k n ++ xs).length = 6 + L := by rw [List.length_append, l1, HL.out]
  obtain ⟨a2, c2, rfl, h2, _⟩ : ∃ a c, v2 = .slice a (nameN k n ++ xs).length c ∧ RowB w2 a c (nameN k n ++ xs) ∧ ∀ ad, a = some ad → ∃ g, ad = ⟨g, 0, none⟩ := own_rowB (by rw [l2]; exact hr2)
  rw [l2]
  clear hr2
  go_wp2_with fail
  have HO := hash_Of a2 c2 (nameN k n ++ xs) w2 h2 (by rw [l2]; omega) (fun x hx => by
    rcases List.mem_append.1 hx with h | h
    · exact nameN_lt k n x h
    · exact HX.out x h)
  rw [l2] at HO
  refine HO.mono ?_
  rintro e w3 ⟨rfl, hb3⟩
  have hs := sumN_lt (nameN k n ++ xs)
  obtain ⟨S, hS⟩ : ∃ S, sumN (nameN k n ++ xs) = S := ⟨_, rfl⟩
  rw [hS] at hs ⊢
  have HS := Lib.hid hS
  clear hS HO HC
  go_wp2_with fail
  refine (hash_Little S 2 _ (by omega) (by omega)).mono ?_
  rintro e w4 ⟨v, rfl, hb4, hr4⟩
  go_wp2
  go_ret
  refine ⟨v, rfl, below_two (below_two (below_two hb1 (below_two hB hb2)) hb3) hb4, ?_⟩
  unfold csumN
  rw [HS.out]
  exact own_lower hr4 (by have := hb1.size; have := hb2.size; have := hb3.size; simp at *; omega)
/-- is a key, or a count, out of range -/
def outB (k n : Int) : Bool := !(decide (0 ≤ k) && decide (k < 65536) && decide (0 ≤ n) && decide (n ≤ 2147483648))
theorem outB_no {k n : Int} : outB k n = false ↔ 0 ≤ k ∧ k < 65536 ∧ 0 ≤ n ∧ n ≤ 2147483648 := by simp [outB]; omega
theorem outB_yes {k n : Int} : outB k n = true ↔ k < 0 ∨ 65536 ≤ k ∨ n < 0 ∨ 2147483648 < n := by
  by_cases h : outB k n = true
  · simp only [h, true_iff]; simp [outB] at h; omega
  · have := outB_no.1 (by simpa using h); simp only [h]; constructor
    · intro e; cases e
    · intro e; omega
theorem cell_out (k n : Int) (w : World) :
    Calls Try.prog 39 #[.int .i64 k, .int .i64 n] w fun e w' => e = .returned (.bool (outB k n)) ∧ w = w' := by
  obtain ⟨o, ho⟩ : ∃ o, outB k n = o := ⟨_, rfl⟩
  rw [ho]
  have HO := Lib.hid ho
  cases o
  · have ⟨h1, h2, h3, h4⟩ := outB_no.1 ho
    clear ho
    go_enter Try.func39, Try.ntmps39
    go_wp2
    go_ret
    exact ⟨ret_bool (by simp; try omega), rfl⟩
  · have h := outB_yes.1 ho
    clear ho
    rcases h with h | h | h | h
    all_goals
      go_enter Try.func39, Try.ntmps39
      go_wp2
      all_goals (go_ret; exact ⟨ret_bool (by simp; try omega), rfl⟩)
end Go.Proofs.Ytkodhpjmmiapaaa

/- Contracts of package ratchet: out, part, turn. -/
import Derived.Test.YtpikjahgnnejmaaPad
import Derived.Test.YtpikjahgnnejmaaHeld
import Derived.RangeFuncBox
namespace Go.Proofs.Ytpikjahgnnejmaa
open Go.RowKit
set_option linter.unusedVariables false
set_option linter.unusedSimpArgs false
def partN (k b : Nat) : Nat := sumN [k % 256, k / 256, b]
theorem partN_lt (k b : Nat) : partN k b < 65536 := fold_lt _ 0 (by omega)
theorem cells_three (w : World) (a b c : Nat) (t : TypeId) : RowB (w.alloc (.cells #[.int .u8 (a : Int), .int .u8 (b : Int), .int .u8 (c : Int)] t)) (some ⟨w.heap.size, 0, none⟩) 3 [a, b, c] := by
  refine ⟨fun e => (by cases e), fun ad e j u hu => ?_⟩
  cases e
  rw [add_at]
  have hn := World.alloc_heap_new w (.cells #[.int .u8 (a : Int), .int .u8 (b : Int), .int .u8 (c : Int)] t)
  simp only [World.cell?]
  rw [hn]
  simp only [byV, List.map_cons, List.map_nil] at hu
  simpa using hu
set_option maxHeartbeats 800000 in
theorem ratchet_part (k b : Nat) (w : World) (hk : k < 65536) (hb : b < 256) :
    Calls Try.prog 61 #[.int .i64 k, .int .u8 b] w fun e w' => e = .returned (.int .i64 (partN k b)) ∧ Below w.heap.size w w' := by
  go_enter Try.func61, Try.ntmps61
  go_wp2_with fail
  have h1 : (k : Int) % 256 = ((k % 256 : Nat) : Int) := by omega
  have h2 : (k : Int) / 256 = ((k / 256 : Nat) : Int) := by omega
  rw [h1, h2]
  refine (hash_Of (some ⟨w.heap.size, 0, none⟩) 3 [k % 256, k / 256, b] _ (cells_three w _ _ _ _) (by simp) (fun x hx => ?_)).mono ?_
  · simp only [List.mem_cons, List.not_mem_nil, or_false] at hx
    omega
  rintro e w' ⟨rfl, hb2⟩
  have hl := partN_lt k b
  obtain ⟨P, hP⟩ : ∃ P, P = partN k b := ⟨_, rfl⟩
  have hP2 : sumN [k % 256, k / 256, b] = P := hP.symm
  rw [← hP] at hl
  have HP := Lib.hid hP
  rw [hP2]
  clear hP hP2
  have hbb := ((Below.refl _ w).alloc (Nat.le_refl _) (.cells #[.int .u8 ((k % 256 : Nat) : Int), .int .u8 ((k / 256 : Nat) : Int), .int .u8 (b : Int)] 5)).trans (hb2.mono (by simp))
  clear hb2 h1 h2 hk hb
  go_wp2
  go_ret
  exact ⟨by rw [HP.out]; rfl, hbb⟩
theorem ratchet_out (n : Int) (w : World) (h : -9223372036854775808 ≤ n ∧ n ≤ 9223372036854775807) :
    Calls Try.prog 45 #[.int .i64 n] w fun e w' => e = .returned (.bool (decide (n < 0) || decide (65536 ≤ n))) ∧ w = w' := by
  by_cases h1 : n < 0
  · go_enter Try.func45, Try.ntmps45
    go_wp2
    go_ret
    exact ⟨ret_bool (by simp [h1]), rfl⟩
  · by_cases h2 : 65536 ≤ n
    · go_enter Try.func45, Try.ntmps45
      go_wp2
      go_ret
      exact ⟨ret_bool (by simp [h2]), rfl⟩
    · have HF : Hid ((decide (n < 0) || decide (65536 ≤ n)) = false) := Lib.hid (by rw [decide_eq_false h1, decide_eq_false h2]; rfl)
      rw [HF.out]
      go_enter Try.func45, Try.ntmps45
      go_wp2
      go_ret
      exact ⟨ret_bool (by first | rfl | exact HF.out), rfl⟩
set_option maxHeartbeats 800000 in
/-- the key turns on -/
theorem ratchet_turn (g o k : Nat) (w : World) (hk : k < 65536) (c0 : w.cell? ⟨g, o, none⟩ = some (.int .i64 k)) (f0 : w.frozen? ⟨g, o, none⟩ = false) :
    Calls Try.prog 46 #[.pointer (some ⟨g, o, none⟩)] w fun e w' => e = .returned (.int .i64 (partN k 1)) ∧ ∃ W, Below w.heap.size w W ∧ w' = W.setCell ⟨g, o, none⟩ (.int .i64 (partN k 2)) := by
  have hlt := World.block_lt_of_cell? w _ c0
  have H1 := Lib.hid (fun W => ratchet_part k 1 W hk (by omega))
  have H2 := Lib.hid (fun W => ratchet_part k 2 W hk (by omega))
  obtain ⟨P, hP⟩ : ∃ P, partN k 1 = P := ⟨_, rfl⟩
  obtain ⟨Q, hQ⟩ : ∃ P, partN k 2 = P := ⟨_, rfl⟩
  rw [hP] at H1 ⊢
  rw [hQ] at H2 ⊢
  clear hP hQ
  go_enter Try.func46, Try.ntmps46
  go_wp2_with fail
  refine (H1.out _).mono ?_
  rintro e w1 ⟨rfl, hb1⟩
  have c1 := kept hb1 c0 hlt
  have f1 : w1.frozen? ⟨g, o, none⟩ = false := by
    rw [← f0]; simp only [World.frozen?]; rw [hb1.block g hlt]
  go_wp2_with fail
  refine (H2.out _).mono ?_
  rintro e w2 ⟨rfl, hb2⟩
  have hlt1 : g < w1.heap.size := Nat.lt_of_lt_of_le hlt hb1.size
  have c2 := kept hb2 c1 hlt1
  have f2 : w2.frozen? ⟨g, o, none⟩ = false := by
    rw [← f1]; simp only [World.frozen?]; rw [hb2.block g hlt1]
  have hbb := below_two hb1 hb2
  go_wp2
  go_ret
  exact ⟨rfl, _, hbb, rfl⟩
end Go.Proofs.Ytpikjahgnnejmaa

/- Rows of bytes; the contract of hash.Little. -/
import Derived.Test.YtkodhpjmmiapaaaHash
import Derived.Below
import Derived.WalkSmall
import Derived.OwnWalk
import Derived.Maps.AppendAt
namespace Go.Proofs.Ytkodhpjmmiapaaa
open Go.RowKit
set_option linter.unusedVariables false
set_option linter.unusedSimpArgs false
/-- bytes as values -/
def byV (l : List Nat) : List Value := l.map fun x : Nat => Value.int .u8 (x : Int)
/-- a number as bytes, the lowest first -/
def litN (n : Nat) : Nat → List Nat
  | 0 => []
  | m + 1 => n % 256 :: litN (n / 256) m
theorem litN_len (m : Nat) : ∀ n, (litN n m).length = m := by
  induction m with
  | zero => intro n; rfl
  | succ m ih => intro n; simp [litN, ih]
theorem litN_snoc (m : Nat) : ∀ n, litN n (m + 1) = litN n m ++ [n / 256 ^ m % 256] := by
  induction m with
  | zero => intro n; simp [litN]
  | succ m ih =>
    intro n
    rw [litN, ih (n / 256)]
    simp only [litN, List.cons_append]
    rw [Nat.div_div_eq_div_mul, Nat.pow_succ, Nat.mul_comm 256]
theorem byV_snoc (l : List Nat) (x : Nat) : byV (l ++ [x]) = byV l ++ [.int .u8 x] := by simp [byV]
theorem byte_info : (Try.prog.info? 5).map (fun i => (i.zero, i.size, i.bytes)) = some (some (.int .u8 0), 1, 1) := by kernel_rfl
set_option maxRecDepth 20000 in
set_option maxHeartbeats 1600000 in
theorem hash_Little (n m : Nat) (w : World) (hn : n ≤ 4611686018427387904) (hm : m ≤ 8) :
    Calls Try.prog 52 #[.int .i64 n, .int .i64 m] w fun e w' => ∃ v, e = .returned v ∧ Below w.heap.size w w' ∧ w'.ownsRow w.heap.size 5 1 v m (byV (litN n m)) := by
  go_enter Try.func52, Try.ntmps52
  obtain ⟨i0, hi, hz0, hz1, hz2⟩ := info_parts byte_info
  have hu : Try.prog.underlying 31 = some (.slice 5) := by kernel_rfl
  go_wp2
  go_loopw [0, 5, 7] (fun x v i wr => ∃ I : Nat, i = .int .i64 I ∧ x = .int .i64 ((n / 256 ^ I : Nat) : Int) ∧ I ≤ m ∧ Below w.heap.size w wr ∧ wr.ownsRow w.heap.size 5 1 v I (byV (litN n I))) (fun _ _ i _ => m - (intOf i).toNat)
  case atStart => exact ⟨0, rfl, by simp, by omega, Below.refl _ _, World.ownsRow_nil _ _ _ _⟩
  case round =>
    obtain ⟨I, rfl, rfl, hI, hb, hr⟩ := hrel
    have zr := hb.size
    by_cases hlt : I < m
    · have hN : n / 256 ^ I ≤ n := Nat.div_le_self _ _
      have hnext : n / 256 ^ I / 256 = n / 256 ^ (I + 1) := by rw [Nat.div_div_eq_div_mul, Nat.pow_succ]
      obtain ⟨N, hNe⟩ : ∃ N, N = n / 256 ^ I := ⟨_, rfl⟩
      rw [← hNe] at hN hnext
      rw [← hNe]
      have HN := Lib.hid hNe
      have HX := Lib.hid hnext
      have HL := Lib.hid (litN_snoc I n)
      clear hNe hnext
      go_wp2_with (first
        | (at_builtin; refine wpList_append_own _ rfl _ _ 31 rfl w.heap.size 5 i0 (.int .u8 0) 1 1 hu hi hz0 hz1 hz2 rfl (by decide) _ _ _ rfl (hr.alloc _) ⟨wr.heap.size, 0, none⟩ 1 1 [.int .u8 ((N : Int) % 256)] rfl rfl (cell_one_new _ _ _) (by simp [Value.oneCell']) (by unfold maxLen; omega) (by omega) (by simp; omega) ?_; intro v' w2 hown' hg2 hnil2))
      have s2 := hg2.size
      simp at s2
      go_round
      case rel =>
        refine ⟨I + 1, by go_num, ?_, by omega, ?_, ?_⟩
        · have := HX.out; rw [← this]; simp
        · exact (hb.alloc (by omega) _).grown hg2 (by simp; omega) (fun j hj => (hr.lt j hj).1)
        · rw [HL.out, byV_snoc, ← HN.out]
          simpa using hown'
      case measure => simp [intOf]; omega
    · obtain rfl : I = m := by omega
      go_wp2
      go_ret
      exact ⟨_, rfl, hb, hr⟩
end Go.Proofs.Ytkodhpjmmiapaaa

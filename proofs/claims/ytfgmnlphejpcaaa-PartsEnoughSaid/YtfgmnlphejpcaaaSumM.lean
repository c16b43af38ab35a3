/- Plain: sums of ints over the first so many numbers. -/
import Derived.Test.YtfgmnlphejpcaaaBase
namespace Go.Proofs.Ytfgmnlphejpcaaa
set_option linter.unusedVariables false
def SumI : Nat → (Nat → Int) → Int
  | 0, _ => 0
  | n + 1, f => SumI n f + f n
theorem SumI_congr {f g : Nat → Int} : ∀ {n : Nat}, (∀ i, i < n → f i = g i) → SumI n f = SumI n g
  | 0, _ => rfl
  | n + 1, h => by
    unfold SumI
    rw [SumI_congr (fun i hi => h i (by omega)), h n (by omega)]
theorem SumI_zero {f : Nat → Int} : ∀ {n : Nat}, (∀ i, i < n → f i = 0) → SumI n f = 0
  | 0, _ => rfl
  | n + 1, h => by
    unfold SumI
    rw [SumI_zero (fun i hi => h i (by omega)), h n (by omega)]; rfl
theorem SumI_append (a b : Nat) (f : Nat → Int) : SumI (a + b) f = SumI a f + SumI b (fun i => f (a + i)) := by
  induction b with
  | zero => simp [SumI]
  | succ b ih => rw [← Nat.add_assoc]; simp only [SumI, ih]; omega
theorem SumI_add (n : Nat) (f g : Nat → Int) : SumI n (fun i => f i + g i) = SumI n f + SumI n g := by
  induction n with
  | zero => rfl
  | succ n ih => simp only [SumI, ih]; omega
theorem SumI_mul (n : Nat) (c : Int) (f : Nat → Int) : SumI n (fun i => c * f i) = c * SumI n f := by
  induction n with
  | zero => simp [SumI]
  | succ n ih => simp only [SumI, ih, Int.mul_add]
theorem SumI_neg (n : Nat) (f : Nat → Int) : SumI n (fun i => - f i) = - SumI n f := by
  induction n with
  | zero => rfl
  | succ n ih => simp only [SumI, ih]; omega
theorem SumI_sub (n : Nat) (f g : Nat → Int) : SumI n (fun i => f i - g i) = SumI n f - SumI n g := by
  induction n with
  | zero => rfl
  | succ n ih => simp only [SumI, ih]; omega
theorem SumI_swap (n m : Nat) (f : Nat → Nat → Int) : SumI n (fun i => SumI m (fun j => f i j)) = SumI m (fun j => SumI n (fun i => f i j)) := by
  induction n with
  | zero => simp only [SumI]; exact (SumI_zero (fun _ _ => rfl)).symm
  | succ n ih => simp only [SumI, ih, SumI_add]
theorem SumI_single {n k : Nat} {f : Nat → Int} (hk : k < n) (h : ∀ i, i < n → i ≠ k → f i = 0) : SumI n f = f k := by
  induction n with
  | zero => omega
  | succ n ih =>
    unfold SumI
    by_cases e : k = n
    · subst e
      rw [SumI_zero (fun i hi => h i (by omega) (by omega))]; omega
    · rw [ih (by omega) (fun i hi => h i (by omega)), h n (by omega) (fun e2 => e e2.symm)]; omega
theorem SumI_const (n : Nat) (c : Int) : SumI n (fun _ => c) = n * c := by
  induction n with
  | zero => simp [SumI]
  | succ n ih => simp only [SumI, ih]; rw [Int.natCast_succ, Int.add_mul, Int.one_mul]
theorem SumI_bound {n : Nat} {f : Nat → Int} {B : Int} (h : ∀ i, i < n → -B ≤ f i ∧ f i ≤ B) : -(n * B) ≤ SumI n f ∧ SumI n f ≤ n * B := by
  induction n with
  | zero => simp [SumI]
  | succ n ih =>
    have h1 := ih (fun i hi => h i (by omega))
    have h2 := h n (by omega)
    simp only [SumI]
    rw [Int.natCast_succ, Int.add_mul, Int.one_mul]
    omega
end Go.Proofs.Ytfgmnlphejpcaaa

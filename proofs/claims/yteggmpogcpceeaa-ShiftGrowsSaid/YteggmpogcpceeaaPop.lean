/- Plain: how many bits of a word are set, as the library counts them; whether that is odd. -/
import Derived.Test.YteggmpogcpceeaaShiM
namespace Go.Proofs.Yteggmpogcpceeaa
namespace Sh
set_option linter.unusedVariables false
set_option linter.unusedSimpArgs false
theorem and_split {a m : Nat} (b n : Nat) (ha : a < 256) (hm : m < 256) : (a + 256 * b) &&& (m + 256 * n) = (a &&& m) + 256 * (b &&& n) := by
  have h1 : a &&& m < 2 ^ 8 := Nat.and_lt_two_pow _ (by omega)
  apply Nat.eq_of_testBit_eq
  intro i
  rw [Nat.testBit_and, Nat.add_comm a, Nat.add_comm m, Nat.add_comm (a &&& m), show (256 : Nat) = 2 ^ 8 from rfl, Nat.testBit_two_pow_mul_add _ (show a < 2 ^ 8 from ha), Nat.testBit_two_pow_mul_add _ (show m < 2 ^ 8 from hm), Nat.testBit_two_pow_mul_add _ h1]
  split
  · rw [Nat.testBit_and]
  · rw [Nat.testBit_and]
def stA (n x : Nat) : Nat := (x / 2 &&& n) + (x &&& n)
def stB (n x : Nat) : Nat := (x / 4 &&& n) + (x &&& n)
def stC (n x : Nat) : Nat := (x / 16 + x) &&& n
def msk (m : Nat) : Nat → Nat
  | 0 => 0
  | k + 1 => m + 256 * msk m k
theorem low_a : ∀ a, a < 256 → ∀ c, c < 2 → (a / 2 + 128 * c) &&& 85 = a / 2 &&& 85 := by decide +kernel
theorem low_b : ∀ a, a < 256 → ∀ c, c < 4 → (a / 4 + 64 * c) &&& 51 = a / 4 &&& 51 := by decide +kernel
theorem stA_split {a : Nat} (b n : Nat) (ha : a < 256) : stA (85 + 256 * n) (a + 256 * b) = stA 85 a + 256 * stA n b := by
  unfold stA
  have e : (a + 256 * b) / 2 = (a / 2 + 128 * (b % 2)) + 256 * (b / 2) := by omega
  rw [e, and_split _ _ (by omega) (by omega), and_split _ _ ha (by omega), low_a a ha _ (Nat.mod_lt _ (by omega)), Nat.mul_add]
  omega
theorem stB_split {a : Nat} (b n : Nat) (ha : a < 256) : stB (51 + 256 * n) (a + 256 * b) = stB 51 a + 256 * stB n b := by
  unfold stB
  have e : (a + 256 * b) / 4 = (a / 4 + 64 * (b % 4)) + 256 * (b / 4) := by omega
  rw [e, and_split _ _ (by omega) (by omega), and_split _ _ ha (by omega), low_b a ha _ (Nat.mod_lt _ (by omega)), Nat.mul_add]
  omega
/-- a byte behind the second step -/
def gB (a : Nat) : Nat := stB 51 (stA 85 a)
theorem gB_facts : ∀ a, a < 256 → stA 85 a < 256 ∧ gB a ≤ 68 ∧ gB a % 16 ≤ 4 := by decide +kernel
def pcB (a : Nat) : Nat := (gB a / 16 + gB a) % 16
def cB (k x : Nat) : Nat := stB (msk 51 k) (stA (msk 85 k) x)
theorem cB_zero (x : Nat) : cB 0 x = 0 := by
  unfold cB msk stB
  rw [Nat.and_zero, Nat.and_zero]
theorem cB_succ {a : Nat} (k b : Nat) (ha : a < 256) : cB (k + 1) (a + 256 * b) = gB a + 256 * cB k b := by
  unfold cB gB
  show stB (51 + 256 * msk 51 k) (stA (85 + 256 * msk 85 k) (a + 256 * b)) = _
  rw [stA_split b _ ha, stB_split _ _ (gB_facts a ha).1]
theorem cB_low (k x : Nat) : cB k x % 16 ≤ 4 := by
  cases k with
  | zero => rw [cB_zero]; omega
  | succ k =>
    have h := cB_succ (a := x % 256) k (x / 256) (Nat.mod_lt _ (by omega))
    rw [Nat.mod_add_div] at h
    have := (gB_facts (x % 256) (Nat.mod_lt _ (by omega))).2.2
    rw [h]
    omega
theorem low_c : ∀ s, s < 256 → s &&& 15 = s % 16 := by decide +kernel
def cC (k x : Nat) : Nat := stC (msk 15 k) (cB k x)
theorem cC_zero (x : Nat) : cC 0 x = 0 := Nat.and_zero _
theorem cC_succ {a : Nat} (k b : Nat) (ha : a < 256) : cC (k + 1) (a + 256 * b) = pcB a + 256 * cC k b := by
  unfold cC pcB
  rw [cB_succ k b ha]
  obtain ⟨_, h2, h3⟩ := gB_facts a ha
  have h4 := cB_low k b
  generalize gB a = g at *
  generalize cB k b = c at *
  unfold stC
  show ((g + 256 * c) / 16 + (g + 256 * c)) &&& (15 + 256 * msk 15 k) = _
  have e : (g + 256 * c) / 16 + (g + 256 * c) = (g / 16 + 16 * (c % 16) + g) + 256 * (c / 16 + c) := by omega
  rw [e, and_split _ _ (by omega) (by omega), low_c _ (by omega)]
  have e2 : (g / 16 + 16 * (c % 16) + g) % 16 = (g / 16 + g) % 16 := by omega
  rw [e2]
/-- the bytes' counts together -/
def pcs : Nat → Nat → Nat
  | 0, _ => 0
  | k + 1, x => pcB (x % 256) + pcs k (x / 256)
theorem pcB_le : ∀ a, a < 256 → pcB a ≤ 8 := by decide +kernel
theorem pc_odd : ∀ a, a < 256 → decide (pcB a % 2 = 1) = dot (fun i => a.testBit i) (fun _ => true) 8 := by decide +kernel
theorem dot_add (a b : Nat → Bool) (j : Nat) : ∀ k, dot a b (j + k) = Bool.xor (dot a b j) (dot (fun i => a (i + j)) (fun i => b (i + j)) k)
  | 0 => by
    show dot a b j = Bool.xor (dot a b j) false
    rw [Bool.xor_false]
  | k + 1 => by
    show Bool.xor (dot a b (j + k)) (a (j + k) && b (j + k)) = Bool.xor (dot a b j) (Bool.xor (dot (fun i => a (i + j)) (fun i => b (i + j)) k) (a (k + j) && b (k + j)))
    rw [dot_add a b j k, Nat.add_comm k j, Bool.xor_assoc]
theorem add_odd (a b : Nat) : decide ((a + b) % 2 = 1) = Bool.xor (decide (a % 2 = 1)) (decide (b % 2 = 1)) := by
  rcases Nat.mod_two_eq_zero_or_one a with h | h <;> rcases Nat.mod_two_eq_zero_or_one b with h' | h' <;>
    simp [Nat.add_mod, h, h']
theorem pcs_odd : ∀ k x, decide (pcs k x % 2 = 1) = dot (fun i => x.testBit i) (fun _ => true) (8 * k)
  | 0, _ => rfl
  | k + 1, x => by
    show decide ((pcB (x % 256) + pcs k (x / 256)) % 2 = 1) = _
    rw [add_odd, pc_odd _ (Nat.mod_lt _ (by omega)), pcs_odd k, show 8 * (k + 1) = 8 + 8 * k by omega, dot_add]
    congr 1
    · refine dot_congr 8 fun i hi => ?_
      show ((x % 2 ^ 8).testBit i && true) = (x.testBit i && true)
      rw [Nat.testBit_mod_two_pow, decide_eq_true hi, Bool.true_and]
    · refine dot_congr _ fun i _ => ?_
      show ((x / 2 ^ 8).testBit i && true) = (x.testBit (i + 8) && true)
      rw [Nat.testBit_div_two_pow]
theorem msk_85 : msk 85 8 = 6148914691236517205 := by decide +kernel
theorem msk_51 : msk 51 8 = 3689348814741910323 := by decide +kernel
theorem msk_15 : msk 15 8 = 1085102592571150095 := by decide +kernel
/-- the library's count -/
def ones64 (x : Nat) : Nat :=
  let u := stC 1085102592571150095 (stB 3689348814741910323 (stA 6148914691236517205 x))
  let v := u + u / 256
  let w := v + v / 65536
  (w + w / 4294967296) % 128
theorem fold1 {p0 c : Nat} (h : p0 < 256) : (p0 + 256 * c) / 256 = c := by omega
theorem folds {p0 p1 p2 p3 p4 p5 p6 p7 u v w : Nat} (h0 : p0 ≤ 8) (h1 : p1 ≤ 8) (h2 : p2 ≤ 8) (h3 : p3 ≤ 8) (h4 : p4 ≤ 8) (h5 : p5 ≤ 8) (h6 : p6 ≤ 8) (h7 : p7 ≤ 8)
    (eu : u = p0 + 256 * (p1 + 256 * (p2 + 256 * (p3 + 256 * (p4 + 256 * (p5 + 256 * (p6 + 256 * (p7 + 256 * 0)))))))) (ev : v = u + u / 256) (ew : w = v + v / 65536) :
    (w + w / 4294967296) % 128 = p0 + (p1 + (p2 + (p3 + (p4 + (p5 + (p6 + (p7 + 0))))))) := by
  have hu : u / 256 = p1 + 256 * (p2 + 256 * (p3 + 256 * (p4 + 256 * (p5 + 256 * (p6 + 256 * (p7 + 256 * 0)))))) := by rw [eu]; exact fold1 (by omega)
  have hv : v = (p0 + p1 + 256 * (p1 + p2)) + 65536 * (p2 + p3 + 256 * (p3 + p4) + 65536 * (p4 + p5 + 256 * (p5 + p6) + 65536 * (p6 + p7 + 256 * p7))) := by
    rw [ev, hu, eu]
    clear ev ew hu eu
    omega
  have hv2 : v / 65536 = p2 + p3 + 256 * (p3 + p4) + 65536 * (p4 + p5 + 256 * (p5 + p6) + 65536 * (p6 + p7 + 256 * p7)) := by
    rw [hv]
    clear hu hv eu ev ew
    generalize p2 + p3 + 256 * (p3 + p4) + 65536 * (p4 + p5 + 256 * (p5 + p6) + 65536 * (p6 + p7 + 256 * p7)) = c
    omega
  have hw : w = (p0 + p1 + p2 + p3 + 256 * (p1 + p2 + p3 + p4) + 65536 * (p2 + p3 + p4 + p5 + 256 * (p3 + p4 + p5 + p6))) + 4294967296 * (p4 + p5 + p6 + p7 + 256 * (p5 + p6 + p7) + 65536 * (p6 + p7 + 256 * p7)) := by
    rw [ew, hv2, hv]
    clear hu hv hv2 eu ev ew
    omega
  have hw2 : w / 4294967296 = p4 + p5 + p6 + p7 + 256 * (p5 + p6 + p7) + 65536 * (p6 + p7 + 256 * p7) := by
    rw [hw]
    clear hu hv hv2 hw eu ev ew
    generalize p4 + p5 + p6 + p7 + 256 * (p5 + p6 + p7) + 65536 * (p6 + p7 + 256 * p7) = c
    omega
  rw [hw2, hw]
  clear hu hv hv2 hw hw2 eu ev ew
  omega
theorem ones64_eq (x : Nat) : ones64 x = pcs 8 x := by
  have e : stC 1085102592571150095 (stB 3689348814741910323 (stA 6148914691236517205 x)) = cC 8 x := by
    unfold cC cB
    rw [msk_85, msk_51, msk_15]
  unfold ones64
  rw [e]
  clear e
  have hs : ∀ k y, cC (k + 1) y = pcB (y % 256) + 256 * cC k (y / 256) := fun k y => by
    have h := cC_succ (a := y % 256) k (y / 256) (Nat.mod_lt _ (by omega))
    rwa [Nat.mod_add_div] at h
  have hp : ∀ y, pcB (y % 256) ≤ 8 := fun y => pcB_le _ (Nat.mod_lt _ (by omega))
  rw [hs, hs, hs, hs, hs, hs, hs, hs, cC_zero]
  simp only [pcs]
  have h0 := hp x
  have h1 := hp (x / 256)
  have h2 := hp (x / 256 / 256)
  have h3 := hp (x / 256 / 256 / 256)
  have h4 := hp (x / 256 / 256 / 256 / 256)
  have h5 := hp (x / 256 / 256 / 256 / 256 / 256)
  have h6 := hp (x / 256 / 256 / 256 / 256 / 256 / 256)
  have h7 := hp (x / 256 / 256 / 256 / 256 / 256 / 256 / 256)
  generalize pcB (x / 256 / 256 / 256 / 256 / 256 / 256 / 256 % 256) = p7 at *
  generalize pcB (x / 256 / 256 / 256 / 256 / 256 / 256 % 256) = p6 at *
  generalize pcB (x / 256 / 256 / 256 / 256 / 256 % 256) = p5 at *
  generalize pcB (x / 256 / 256 / 256 / 256 % 256) = p4 at *
  generalize pcB (x / 256 / 256 / 256 % 256) = p3 at *
  generalize pcB (x / 256 / 256 % 256) = p2 at *
  generalize pcB (x / 256 % 256) = p1 at *
  generalize pcB (x % 256) = p0 at *
  clear hs hp
  exact folds h0 h1 h2 h3 h4 h5 h6 h7 rfl rfl rfl
theorem ones64_odd {x : Nat} (k : Nat) (hx : x < 2 ^ k) (hk : k ≤ 64) : decide (ones64 x % 2 = 1) = dot (fun i => x.testBit i) (fun _ => true) k := by
  rw [ones64_eq, pcs_odd 8 x]
  refine dot_to hk fun i hi _ => ?_
  show (x.testBit i && true) = false
  rw [Nat.testBit_lt_two_pow (Nat.lt_of_lt_of_le hx (Nat.pow_le_pow_right (by omega) hi))]; rfl
theorem ones64_le (x : Nat) : ones64 x < 128 := Nat.mod_lt _ (by omega)
theorem stA_lt {x n : Nat} (hn : n < 2 ^ 63) : stA n x < 2 ^ 64 := by
  have h1 : x / 2 &&& n ≤ n := Nat.and_le_right
  have h2 : x &&& n ≤ n := Nat.and_le_right
  unfold stA; omega
theorem stB_lt {x n : Nat} (hn : n < 2 ^ 63) : stB n x < 2 ^ 64 := by
  have h1 : x / 4 &&& n ≤ n := Nat.and_le_right
  have h2 : x &&& n ≤ n := Nat.and_le_right
  unfold stB; omega
end Sh
end Go.Proofs.Yteggmpogcpceeaa

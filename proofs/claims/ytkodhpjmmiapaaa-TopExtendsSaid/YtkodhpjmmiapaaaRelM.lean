/- Plain: what a way does with hops. -/
import Derived.Test.YtkodhpjmmiapaaaRd2
import Derived.Test.YtkodhpjmmiapaaaMk
namespace Go.Proofs.Ytkodhpjmmiapaaa
set_option linter.unusedVariables false
set_option linter.unusedSimpArgs false
/-- a hop -/
structure Hp where
  kind : Int
  k : Int
  l : Int
  body : List Nat
  link : Int
  at' : Int
  turn : Nat
  deriving Inhabited
/-- what is wrong with what is to be sent over n relays -/
def wrongF (n : Nat) (h : Hp) : Int :=
  if n = 0 then 7 else if 14 < h.body.length then 1
  else if h.turn ≠ 0 ∧ (h.link < 0 ∨ (n : Int) ≤ h.link ∨ h.at' < 0 ∨ 17 ≤ h.at') then 3 else 0
/-- what a link makes of a cell -/
def passF (h : Hp) (link : Nat) (xs : List Nat) : List Nat :=
  if h.turn ≠ 0 ∧ h.link = (link : Int) then xs.set h.at'.toNat (xs.getD h.at'.toNat 0 ^^^ h.turn) else xs
theorem passF_len (h : Hp) (link : Nat) (xs : List Nat) : (passF h link xs).length = xs.length := by
  unfold passF; split <;> simp
theorem passF_lt {h : Hp} {link : Nat} {xs : List Nat} (ht : h.turn < 256) (hx : ∀ x ∈ xs, x < 256) : ∀ x ∈ passF h link xs, x < 256 := fun x hm => by
  unfold passF at hm
  split at hm
  · rcases List.mem_or_eq_of_mem_set hm with h1 | h1
    · exact hx x h1
    · rw [h1]
      refine Nat.xor_lt_two_pow (n := 8) ?_ ht
      rw [List.getD_eq_getElem?_getD]
      cases hg : xs[h.at'.toNat]? with
      | none => decide
      | some y => exact hx y (List.mem_of_getElem? hg)
  · exact hx x hm
/-- a cell of seventeen bytes -/
def Cl (xs : List Nat) : Prop := xs.length = 17 ∧ ∀ x ∈ xs, x < 256
theorem Cl.lay {xs : List Nat} (h : Cl xs) (k n : Nat) : Cl (layN k n xs) := ⟨by rw [layN_len]; exact h.1, layN_lt h.2⟩
theorem Cl.pass {xs : List Nat} (h : Cl xs) {hp : Hp} (ht : hp.turn < 256) (i : Nat) : Cl (passF hp i xs) := ⟨by rw [passF_len]; exact h.1, passF_lt ht h.2⟩
/-- layers, from the last relay's on -/
def backF (cnt : Nat) : List Nat → List Nat → List Nat
  | [], s => s
  | k :: ks, s => layN k cnt (backF cnt ks s)
/-- there: over the links from number i on -/
def thereF (h : Hp) (cnt : Nat) : Nat → List Nat → List Nat → List Nat
  | _, [], s => s
  | i, k :: ks, s => thereF h cnt (i + 1) ks (layN k cnt (passF h i s))
/-- back: from the last relay on -/
def homeF (h : Hp) (cnt : Nat) : Nat → List Nat → List Nat → List Nat
  | _, [], s => s
  | i, k :: ks, s => passF h i (layN k cnt (homeF h cnt (i + 1) ks s))
def offF (cnt : Nat) : List Nat → List Nat → List Nat
  | [], s => s
  | k :: ks, s => offF cnt ks (layN k cnt s)
def readF (k n : Nat) (xs : List Nat) : Int × List Nat := if fitsB k n xs then (if formB xs then (0, readN xs) else (4, [])) else (8, [])
def sendF (ks : List Nat) (cnt : Nat) (h : Hp) : Int × List Nat := readF (ks.getLastD 0) cnt (thereF h cnt 0 ks (backF cnt ks (cellN (ks.getLastD 0) cnt h.body)))
def ansF (ks : List Nat) (cnt : Nat) (h : Hp) : Int × List Nat := readF (ks.getLastD 0) cnt (offF cnt ks (homeF h cnt 0 ks (cellN (ks.getLastD 0) cnt h.body)))
end Go.Proofs.Ytkodhpjmmiapaaa

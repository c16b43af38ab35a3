/- pratt.Make. -/
import Derived.Test.YtceocooppjfjjaaNeed
import Derived.Test.YtceocooppjfjjaaBin
import Derived.Test.YtceocooppjfjjaaPrC
namespace Go.Proofs.Ytceocooppjfjjaa
open Go.RowKit Go.Maps Go.WideMaps
set_option linter.unusedVariables false
set_option linter.unusedSimpArgs false
theorem pratt_Make_out (a : Int) (w : World) (h : a < 1 ∨ 1048576 < a) :
    Calls Try.prog 24 #[.int .i64 a] w fun e w' => (∃ t : Int, t ≠ 0 ∧ e = .returned (.tuple #[.slice none 0 0, .int .i64 t])) ∧ Below w.heap.size w w' := by
  have HC := Lib.hid (primes_Is_out a w h)
  clear h
  go_enter Try.func24, Try.ntmps24
  go_wp2_with fail
  refine HC.out.mono ?_
  rintro e w1 ⟨rfl, hb1⟩
  go_wp2_with fail
  go_ret2
  exact ⟨⟨2, by decide, rfl⟩, hb1⟩
theorem pratt_Make_not (a : Int) (w : World) (h1 : 1 ≤ a) (h2 : a ≤ 1048576) (h : prB a = false) :
    Calls Try.prog 24 #[.int .i64 a] w fun e w' => (∃ t : Int, t ≠ 0 ∧ e = .returned (.tuple #[.slice none 0 0, .int .i64 t])) ∧ Below w.heap.size w w' := by
  have HC := Lib.hid (primes_Is_in a w h1 h2)
  rw [h] at HC
  clear h
  go_enter Try.func24, Try.ntmps24
  go_wp2_with fail
  refine HC.out.mono ?_
  rintro e w1 ⟨rfl, hb1⟩
  go_wp2_with fail
  go_ret2
  exact ⟨⟨5, by decide, rfl⟩, hb1⟩
/-- what was collected and sorted -/
structure Keysd (D : DataW Value) (U : List Nat) (all : List Int) : Prop where
  sort : all.Pairwise (· < ·)
  mem : ∀ x, x ∈ all ↔ Maps.has D (kL x) = true
  len : all.length ≤ U.length
  nat : ∀ x ∈ all, ∃ N : Nat, x = (N : Int) ∧ N ∈ U
theorem keysd {W : World} {b : Nat} {D : DataW Value} {U : List Nat} (h : NM W b D U) {ss : List Int} (hs : ss.Perm (intKeys D)) : Keysd D U (ss.mergeSort fun x y => decide (x ≤ y)) := by
  obtain ⟨h1, h2, h3⟩ := keys_facts h.own
  have hp := (List.mergeSort_perm ss (fun x y => decide (x ≤ y))).trans hs
  have hm : ∀ x, x ∈ (ss.mergeSort fun x y => decide (x ≤ y)) ↔ Maps.has D (kL x) = true := fun x => (hp.mem_iff).trans (h2 x)
  refine ⟨?_, hm, by rw [hp.length_eq, h3]; exact h.size, fun x hx => h.keys x ((hm x).1 hx)⟩
  have hle := List.pairwise_mergeSort (le := fun x y : Int => decide (x ≤ y)) (fun a b c h1 h2 => by simp only [decide_eq_true_eq] at *; omega) (fun a b => by simp only [Bool.or_eq_true, decide_eq_true_eq]; omega) ss
  have hnd : (ss.mergeSort fun x y => decide (x ≤ y)).Nodup := hp.nodup_iff.2 h1
  exact (hle.and (List.nodup_iff_pairwise_ne.1 hnd)).imp fun {a b} hab => by
    obtain ⟨e1, e2⟩ := hab
    simp only [decide_eq_true_eq] at e1
    omega
/-- where a number stands -/
def ixOf (all : List Int) (q : Nat) : Nat := all.idxOf (q : Int)
theorem ixOf_get {all : List Int} {q : Nat} (h : (q : Int) ∈ all) : all[ixOf all q]? = some (q : Int) := by
  unfold ixOf
  rw [List.getElem?_eq_getElem (List.idxOf_lt_length_of_mem h), List.getElem_idxOf]
/-- a line as it is made -/
def srcOf (all : List Int) (p : Nat) : List Int := (M.prs (p - 1)).map fun q => (ixOf all q : Int)
structure LineOk (all : List Int) (i : Nat) (x : M.Ln) : Prop where
  ex : ∃ p : Nat, all[i]? = some (p : Int) ∧ x.n = (p : Int) ∧ x.src = srcOf all p ∧ (p = 2 ∨ (1 ≤ x.g ∧ x.g < p ∧ M.genB x.g p ((M.prs (p - 1)).map fun q : Nat => (q : Int)) = true)) ∧ 0 ≤ x.g ∧ x.g ≤ 1048576
theorem idx_made {all : List Int} {L : List M.Ln} (hs : all.Pairwise (· < ·)) (hL : ∀ k x, all[k]? = some x → (L.getD k default).n = x) {i p : Nat} (hp : all[i]? = some (p : Int)) (hp0 : 0 < p) : ∀ (l : List Nat), (∀ q ∈ l, (q : Int) ∈ all ∧ q < p) → M.Idx L i (l.map fun q => (ixOf all q : Int)) l
  | [], _ => trivial
  | q :: t, h => by
    obtain ⟨h1, h2⟩ := h q List.mem_cons_self
    have hq := ixOf_get h1
    exact ⟨⟨ixOf all q, rfl, (sorted_lt hs hq hp).1 (by omega), hL _ _ hq⟩, idx_made hs hL hp hp0 t (fun q' h' => h q' (List.mem_cons_of_mem _ h'))⟩
theorem lines_check {D : DataW Value} {U : List Nat} {all : List Int} {L : List M.Ln} (hK : Keysd D U all) (hU : ∀ x ∈ U, M.Pr x ∧ x ≤ 1048576) (hsh : ∀ N : Nat, Maps.has D (kL N) = true → ∀ q ∈ M.prs (N - 1), Maps.has D (kL q) = true) (hlen : L.length = all.length) (h : ∀ i x, L[i]? = some x → LineOk all i x) : checkB L = true := by
  have hLn : ∀ k x, all[k]? = some x → (L.getD k default).n = x := fun k x hx => by
    have hk : k < L.length := by rw [hlen]; exact (List.getElem?_eq_some_iff.1 hx).1
    have hg := List.getElem?_eq_getElem hk
    obtain ⟨p, h1, h2, _⟩ := (h k _ hg).ex
    rw [List.getD_eq_getElem?_getD, hg]
    show L[k].n = x
    rw [h2]
    rw [h1] at hx
    exact Option.some.inj hx
  refine check_done fun i hi => ?_
  have hg := List.getElem?_eq_getElem hi
  obtain ⟨p, h1, h2, h3, h4, _⟩ := (h i _ hg).ex
  have hx : L.getD i default = L[i] := by rw [List.getD_eq_getElem?_getD, hg]; rfl
  have hpm := (hK.mem p).1 (List.mem_of_getElem? h1)
  obtain ⟨N, hN, hNU⟩ := hK.nat p (List.mem_of_getElem? h1)
  obtain rfl : p = N := by omega
  have hpr := hU p hNU
  have h2p := hpr.1.1
  unfold M.holdB
  rw [hx]
  refine M.made_holds hpr.1 hpr.2 h2 h4 ?_
  rw [h3]
  refine idx_made hK.sort hLn h1 (by omega) _ fun q hq => ?_
  have hd := (M.mem_prs (show 0 < p - 1 by omega)).1 hq
  have := Nat.le_of_dvd (show 0 < p - 1 by omega) hd.2
  exact ⟨(hK.mem q).2 (hsh p hpm q hq), by omega⟩
end Go.Proofs.Ytceocooppjfjjaa

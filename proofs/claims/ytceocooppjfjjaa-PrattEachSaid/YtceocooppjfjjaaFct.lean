/- pratt.factors. -/
import Derived.Test.YtceocooppjfjjaaPraN
import Derived.Test.YtceocooppjfjjaaPra2
import Derived.Test.YtceocooppjfjjaaPrF
import Derived.Test.YtceocooppjfjjaaRowP
import Derived.Test.YtceocooppjfjjaaOwnG
namespace Go.Proofs.Ytceocooppjfjjaa
open Go.RowKit
set_option linter.unusedVariables false
set_option linter.unusedSimpArgs false
def prsI (N : Nat) : List Int := (M.prs N).map fun q : Nat => (q : Int)
theorem prsI_len (N : Nat) : (prsI N).length = (M.fac N).length := by simp [prsI, M.prs]
theorem prsI_get {N I : Nat} {x : Nat × Nat} (h : (M.fac N)[I]? = some x) : (prsI N).take (I + 1) = (prsI N).take I ++ [(x.1 : Int)] := by
  rw [List.take_add_one]
  congr 1
  simp [prsI, M.prs, h]
theorem cell_newNn {w : World} {v : Value} {T : TypeId} {n : Nat} (hn : w.heap.size = n) (hv : v.oneCell' = true) : ∀ (j : Nat) (u : Value), [v][j]? = some u → (w.alloc (.cells #[v] T)).cell? ((⟨n, 0, none⟩ : Addr).add j) = some u := by
  subst hn
  exact cell_newN w v T hv
theorem own_pw {W : World} {base : Nat} {v : Value} {l : List (Nat × Nat)} {e : TypeId} (h : W.ownsRow base e 2 v l.length (flatP l)) :
    ∃ a c, v = .slice a l.length c ∧ ∀ i x, l[i]? = some x → ∃ g, a = some ⟨g, 0, none⟩ ∧ W.cell? ⟨g, i * 2, none⟩ = some (.int .i64 x.1) ∧ W.cell? ⟨g, i * 2 + 1, none⟩ = some (.int .i64 x.2) := by
  rcases rowP_shape h with ⟨rfl, rfl⟩ | ⟨g, cap, rfl, _, _, _, hc⟩
  · exact ⟨none, 0, rfl, fun i x hx => by simp at hx⟩
  · exact ⟨_, cap, rfl, fun i x hx => ⟨g, rfl, hc i x hx⟩⟩
set_option maxRecDepth 20000 in
set_option maxHeartbeats 3200000 in
theorem pratt_factors (N : Nat) (w : World) (h1 : 1 ≤ N) (h2 : N ≤ 1048576) :
    Calls Try.prog 67 #[.int .i64 N] w fun e w' => (∃ v, e = .returned v ∧ w'.ownsRow w.heap.size 2 1 v (prsI N).length (inV (prsI N))) ∧ Below w.heap.size w w' := by
  obtain ⟨i0, hi, hz0, hz1, hz2⟩ := info_parts i64_info
  have hu : Try.prog.underlying 31 = some (.slice 2) := by kernel_rfl
  have HF := Lib.hid fun W => primes_Factor_nat N W h1 h2
  have hln := fac_len (M.fac_spec (show 0 < N by omega))
  have HPL := Lib.hid (prsI_len N)
  have HG := Lib.hid fun I x => prsI_get (N := N) (I := I) (x := x)
  obtain ⟨L, hL⟩ : ∃ L, (M.fac N).length = L := ⟨_, rfl⟩
  have HL := Lib.hid hL
  rw [hL] at hln
  clear h1 hL
  go_enter Try.func67, Try.ntmps67
  go_wp2_with fail
  refine (HF.out _).mono ?_
  rintro e w1 ⟨v1, rfl, hb1, ho1⟩
  obtain ⟨a1, c1, rfl, hc1⟩ := own_pw ho1
  rw [HL.out]
  have HB1 := Lib.hid hb1
  have HC := Lib.hid hc1
  clear ho1 hc1 hb1
  go_wp2
  go_loopw [3, 15] (fun lv iv wr => ∃ I : Nat, iv = .int .i64 I ∧ I ≤ L ∧ Hid (Below w1.heap.size w1 wr) ∧ Hid (wr.ownsRow w1.heap.size 2 1 lv I (inV ((prsI N).take I)))) (fun _ iv _ => L - (intOf iv).toNat)
  case atStart => exact ⟨0, rfl, Nat.zero_le _, Lib.hid (Below.refl _ _), Lib.hid (World.ownsRow_nil _ _ _ _)⟩
  case round =>
    obtain ⟨I, rfl, hI, HB, HO⟩ := hrel
    by_cases hIe : I = L
    · subst hIe
      have hown := HO.out
      rw [List.take_of_length_le (by rw [HPL.out, HL.out]; exact Nat.le_refl _)] at hown
      have HO' := Lib.hid hown
      clear hown
      go_wp2_with fail
      go_ret
      exact ⟨⟨_, rfl, by rw [HPL.out, HL.out]; exact own_lower HO'.out HB1.out.size⟩, below_two HB1.out HB.out⟩
    · have hI2 : (I : Int) < L := by omega
      have hI3 : I < L := by omega
      obtain ⟨x, hx⟩ : ∃ x, (M.fac N)[I]? = some x := ⟨_, List.getElem?_eq_getElem (by rw [HL.out]; exact hI3)⟩
      obtain ⟨g, rfl, k0, k1⟩ := HC.out I x hx
      obtain ⟨q, k⟩ := x
      have HST := Lib.hid (HG.out I _ hx)
      simp only at k0 k1 HST
      have kx := kept HB.out k0 (World.block_lt_of_cell? _ _ k0)
      have ky := kept HB.out k1 (World.block_lt_of_cell? _ _ k1)
      have hown := HO.out
      have hz := HB.out.size
      clear hx k0 k1
      go_wp2_with (first
        | (at_builtin; refine wpList_append_own _ rfl _ _ 31 rfl w1.heap.size 2 i0 (.int .i64 0) 1 8 hu hi hz0 hz1 hz2 rfl (by decide) _ _ _ rfl ((hown.alloc _).alloc _) ⟨wr.heap.size + 1, 0, none⟩ 1 1 [.int .i64 (q : Int)] rfl rfl (cell_newNn (by simp) rfl) (by simp [Value.oneCell']) (by unfold maxLen; omega) (by omega) (by simp; omega) ?_; intro v' w2 hown' hg2 hnil2))
      have kk2 := ((HB.out.alloc hz (.cells #[.int .i64 (q : Int), .int .i64 (k : Int)] 64)).alloc (by simp; omega) (.cells #[.int .i64 (q : Int)] 2)).grown hg2 (by simp; omega) (fun j hj => (hown.lt j hj).1)
      go_round
      case rel => exact ⟨I + 1, by go_num, by omega, Lib.hid kk2, Lib.hid (by rw [HST.out]; simpa [inV] using hown')⟩
      case measure => simp [intOf]; omega
end Go.Proofs.Ytceocooppjfjjaa

/- The contract of lockwrightref.Powers. -/
import Derived.Test.YtlabkedkamdomaaPair
import Derived.Laws.StructEq
import Derived.BigQuiet
import Derived.Deep.QuietTactic
namespace Go.Proofs.Ytlabkedkamdomaa
open Go.RowKit
set_option linter.unusedVariables false
set_option linter.unusedSimpArgs false
set_option maxRecDepth 20000 in
set_option maxHeartbeats 1600000 in
theorem ref_Powers (a b : Option Addr) (c d : Nat) (xs ys : List (Int × Int)) (w : World) {La Lb : Nat} (h1 : RowP w a c xs) (h2 : RowP w b d ys) (hLa : xs.length = La) (hLb : ys.length = Lb) (l1 : La ≤ 9223372036854775807) (l2 : Lb ≤ 9223372036854775807) :
    Calls Try.prog 22 #[.slice a La c, .slice b Lb d] w fun e w' => e = .returned (.bool (decide (xs = ys))) ∧ Below w.heap.size w w' := by
  have HR1 := Lib.hid h1
  have HR2 := Lib.hid h2
  have HQ := Lib.hid fun (h : xs.length ≠ ys.length) => decide_eq_false (fun e : xs = ys => h (by rw [e]))
  have HD := Lib.hid fun (I : Nat) (x y : Int × Int) (hx : xs[I]? = some x) (hy : ys[I]? = some y) (hne : x ≠ y) => decide_eq_false (fun e : xs = ys => hne (by rw [e, hy] at hx; cases hx; rfl))
  have HE := Lib.hid fun (h : ∀ i : Nat, i < xs.length → xs[i]? = ys[i]?) (hl : xs.length = ys.length) => decide_eq_true (show xs = ys from List.ext_getElem? fun i => by
    by_cases hi : i < xs.length
    · exact h i hi
    · rw [List.getElem?_eq_none (by omega), List.getElem?_eq_none (by omega)])
  obtain ⟨T, hT⟩ : ∃ T, decide (xs = ys) = T := ⟨_, rfl⟩
  rw [hT] at HQ HD HE ⊢
  have HLa := Lib.hid hLa
  have HLb := Lib.hid hLb
  rw [hLa, hLb] at HQ HE
  clear hT hLa hLb h1 h2
  by_cases hl : La = Lb
  · subst hl
    go_enter Try.func22, Try.ntmps22
    go_wp2
    go_loopw [5] (fun s wr => ∃ I : Nat, s = .int .i64 I ∧ I ≤ La ∧ Below w.heap.size w wr ∧ Hid (∀ j : Nat, j < I → xs[j]? = ys[j]?)) (fun s _ => La - (intOf s).toNat)
    case atStart => exact ⟨0, rfl, Nat.zero_le _, Below.refl _ _, Lib.hid fun j hj => absurd hj (Nat.not_lt_zero _)⟩
    case round =>
      obtain ⟨I, rfl, hI, hb, HZ⟩ := hrel
      by_cases hlt : I < La
      · obtain ⟨x, hx⟩ : ∃ x, xs[I]? = some x := ⟨_, List.getElem?_eq_getElem (by rw [HLa.out]; omega)⟩
        obtain ⟨y, hy⟩ : ∃ y, ys[I]? = some y := ⟨_, List.getElem?_eq_getElem (by rw [HLb.out]; omega)⟩
        obtain ⟨b1, o1, rfl, hcell1⟩ := (HR1.out.below hb (Nat.le_refl _)).shape (by rw [HLa.out]; omega)
        obtain ⟨b2, o2, rfl, hcell2⟩ := (HR2.out.below hb (Nat.le_refl _)).shape (by rw [HLb.out]; omega)
        obtain ⟨kx, kx'⟩ := hcell1 I x hx
        obtain ⟨ky, ky'⟩ := hcell2 I y hy
        have HX := Lib.hid hx
        have HY := Lib.hid hy
        have i1 : (0 : Int) ≤ I := by omega
        have i2 : (I : Int) < La := by omega
        obtain ⟨x, x'⟩ := x
        obtain ⟨y, y'⟩ := y
        simp only at kx kx' ky ky'
        clear hcell1 hcell2 hx hy
        by_cases e : x = y
        · subst e
          by_cases e' : x' = y'
          · subst e'
            go_wp2_with fail
            go_quiet (fail)
            go_wp2
            go_round
            case rel =>
              refine ⟨I + 1, by go_num, by omega, by first | exact hb | exact below_drewN hb _, Lib.hid fun j hj => ?_⟩
              by_cases e : j = I
              · subst e; rw [HX.out, HY.out]
              · exact HZ.out j (by omega)
            case measure => simp [intOf]; omega
          · have e1 : (x' == y') = false := by simpa using e'
            have HF := Lib.hid (HD.out I _ _ HX.out HY.out (fun h => e' (congrArg Prod.snd h)))
            clear e'
            go_wp2_with fail
            go_quiet (fail)
            go_wp2
            go_ret
            exact ⟨by rw [HF.out]; rfl, by first | exact hb | exact below_drewN hb _⟩
        · have e1 : (x == y) = false := by simpa using e
          have HF := Lib.hid (HD.out I _ _ HX.out HY.out (fun h => e (congrArg Prod.fst h)))
          clear e
          go_wp2_with fail
          go_quiet (fail)
          go_wp2
          go_ret
          exact ⟨by rw [HF.out]; rfl, by first | exact hb | exact below_drewN hb _⟩
      · obtain rfl : I = La := by omega
        have HF := Lib.hid (HE.out (fun i hi => HZ.out i hi) trivial)
        go_wp2
        go_ret
        exact ⟨by rw [HF.out]; rfl, by first | exact hb | exact below_drewN hb _⟩
  · have HF := Lib.hid (HQ.out hl)
    have e1 : ((La : Int) == (Lb : Int)) = false := by simp; omega
    have e2 : ((La : Int) != (Lb : Int)) = true := by simp; omega
    go_enter Try.func22, Try.ntmps22
    go_wp2
    go_ret
    exact ⟨by rw [HF.out]; rfl, Below.refl _ _⟩
end Go.Proofs.Ytlabkedkamdomaa

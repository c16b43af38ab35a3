/- The walk of the statement WalshRothaus. -/
import Derived.Test.YtabhmhojlhagcaaDoorImm
namespace Go.Proofs.YtabhmhojlhagcaaDoor
open Go.RowKit
set_option linter.unusedVariables false
set_option linter.unusedSimpArgs false
/-- the first I waves are as high as the first one -/
def bentTo (n f I : Nat) : Bool := (List.range I).all fun v => walN n f v == walN n f 0 || walN n f v == - walN n f 0
theorem bentTo_succ (n f I : Nat) : bentTo n f (I + 1) = (bentTo n f I && (walN n f I == walN n f 0 || walN n f I == - walN n f 0)) := by
  unfold bentTo
  rw [List.range_succ, List.all_append]; simp
theorem bentTo_all {n f : Nat} (h : bentTo n f (2 ^ n) = true) : Bent n f := fun v hv => by
  have := List.all_eq_true.1 h v (List.mem_range.2 hv)
  simpa using this
theorem roth_law {n f : Nat} {d : Int} (hn : n ≤ 5) (hf : f < 2 ^ 2 ^ n) (hd : IsDeg (anfN n f) d) (h : bentTo n f (2 ^ n) = true) : n % 2 = 0 ∧ (n = 4 → d = 2) :=
  ⟨bent_even hn (bentTo_all h), fun e => by subst e; exact roth_four hf (bentTo_all h) hd⟩
set_option maxHeartbeats 3200000 in
theorem WWalshRothaus (a0 : Int) (a1 : Int) (w : World) (hT : TabB w) (w0 : (Lit.int .i64 a0).wf = true) (w1 : (Lit.int .u32 a1).wf = true) :
    Calls Tryd.prog 3 #[.int .i64 a0, .int .u32 a1] w fun e w' => e = .returned (.bool true) ∧ Below w.heap.size w w' := by
  have h1 := wf32 w1
  obtain ⟨f, rfl⟩ := Int.eq_ofNat_of_zero_le h1.1
  have hf : f < 4294967296 := by omega
  have b0 := wf64 w0
  clear w0 w1 h1
  have HK := Lib.hid fun w => keep_function a0 f w hf
  by_cases hfun : funB a0 f = true
  · rw [hfun] at HK
    obtain ⟨h1, h2, h3⟩ := funB_yes.1 hfun
    obtain ⟨n, rfl⟩ := Int.eq_ofNat_of_zero_le h1
    have hn : n ≤ 5 := by omega
    have h3' : f < 2 ^ 2 ^ n := by simpa using h3
    have HDg := Lib.hid fun W hT => walsh_Degree n f W hn h3' hT
    have HW := Lib.hid fun W => walsh_Waves n f W hn h3'
    have HT := Lib.hid hT
    have HL := Lib.hid fun d hd => roth_law (d := d) hn h3' hd
    have hN : 2 ^ n ≤ 32 := Nat.pow_le_pow_right (n := 2) (by omega) hn
    have hN1 : 1 ≤ 2 ^ n := Nat.pow_pos (by omega)
    have HG := Lib.hid fun u (h : u < 2 ^ n) => wavesL_get (f := f) h
    have HB := Lib.hid fun u (h : u < 2 ^ n) => wal_bound (f := f) h
    obtain ⟨N, hNe⟩ : ∃ N, N = 2 ^ n := ⟨_, rfl⟩
    rw [← hNe] at HW hN HG hN1 HL HB
    clear hfun h3 h3' hT hNe
    go_enter Tryd.func3, Tryd.ntmps3
    go_wp2_with fail
    refine (HW.out _).mono ?_
    rintro e w1 ⟨g, cap, rfl, hb1, hr1⟩
    go_wp2_with fail
    refine (HDg.out _ (HT.out.below hb1)).mono ?_
    rintro e w2 ⟨d, rfl, hd, d1, d2, hb2⟩
    have hb := below_two hb1 hb2
    have hgl := hr1.lt g (by simp [Value.ownBlock])
    have HC : Hid (∀ u, u < N → w2.cell? ⟨g, u, none⟩ = some (.int .i64 (walN n f u))) := Lib.hid fun u hu => kept hb2 (own_cell hr1 (i := u) (u := .int .i64 (walN n f u)) (by simp [inV, HG.out u hu])) hgl.2
    have HD := Lib.hid (HL.out d hd)
    have k0 := HC.out 0 (by omega)
    have B0 := HB.out 0 (by omega)
    obtain ⟨v0, hv0⟩ : ∃ v, walN n f 0 = v := ⟨_, rfl⟩
    rw [hv0] at k0 B0
    have HV0 := Lib.hid hv0
    have HHB := Lib.hid hb
    have hgl2 : g < w2.heap.size := Nat.lt_of_lt_of_le hgl.2 hb2.size
    clear hd hv0 hr1 hb1 hb2 hb hgl
    have hNp : ((N : Int) == 0) = false := by simp; omega
    go_wp2_with fail
    refine (HK.out _).mono ?_
    rintro e w' ⟨rfl, rfl⟩
    go_wp2
    go_loop [9, 47] (fun b i => ∃ I : Nat, i = .int .i64 I ∧ I ≤ N ∧ b = .bool (bentTo n f I)) (fun _ i => N - (intOf i).toNat)
    case atStart => exact ⟨0, rfl, by omega, rfl⟩
    case round =>
      obtain ⟨I, rfl, hI, rfl⟩ := hrel
      by_cases hlt : I < N
      · have kx := HC.out I hlt
        have bx := HB.out I hlt
        have hs := bentTo_succ n f I
        rw [HV0.out] at hs
        obtain ⟨v, hv⟩ : ∃ v, walN n f I = v := ⟨_, rfl⟩
        rw [hv] at kx hs bx
        obtain ⟨B, hB⟩ : ∃ B, bentTo n f I = B := ⟨_, rfl⟩
        rw [hB] at hs ⊢
        have HS := Lib.hid hs
        clear hs hB hv
        have hneg : IntKind.i64.wrap (-v0) = -v0 := IntWalk.i64_in _ (by omega)
        cases B with
        | false =>
          go_wp2
          go_round
          case rel => exact ⟨I + 1, by go_num, by omega, by rw [HS.out]; rfl⟩
          case measure => simp [intOf]; omega
        | true =>
          by_cases e1 : v = v0
          · have q1 : (v == v0) = true := by simp [e1]
            have HS2 : Hid (bentTo n f (I + 1) = true) := Lib.hid (by rw [HS.out, q1]; rfl)
            clear e1
            go_wp2
            go_round
            case rel => exact ⟨I + 1, by go_num, by omega, by rw [HS2.out]⟩
            case measure => simp [intOf]; omega
          · have q1 : (v == v0) = false := by simpa using e1
            by_cases e2 : v = -v0
            · have q2 : (v == -v0) = true := by simp [e2]
              have HS2 : Hid (bentTo n f (I + 1) = true) := Lib.hid (by rw [HS.out, q2]; simp)
              clear e1 e2
              go_wp2
              go_round
              case rel => exact ⟨I + 1, by go_num, by omega, by rw [HS2.out]⟩
              case measure => simp [intOf]; omega
            · have q2 : (v == -v0) = false := by simpa using e2
              have HS2 : Hid (bentTo n f (I + 1) = false) := Lib.hid (by rw [HS.out, q1, q2]; rfl)
              clear e1 e2
              go_wp2
              go_round
              case rel => exact ⟨I + 1, by go_num, by omega, by rw [HS2.out]⟩
              case measure => simp [intOf]; omega
      · obtain rfl : I = N := by omega
        obtain ⟨B, hB⟩ : ∃ B, bentTo n f I = B := ⟨_, rfl⟩
        rw [hB] at HD ⊢
        clear hB
        cases B with
        | false =>
          go_wp2
          go_ret
          exact ⟨rfl, HHB.out⟩
        | true =>
          obtain ⟨m1, m2⟩ := HD.out rfl
          have m3 : (n : Int) % 2 = 0 := by omega
          by_cases e4 : n = 4
          · have e5 : ((n : Int) != 4) = false := by simp; omega
            have e6 : (d == 2) = true := by simp; exact m2 e4
            clear m2 e4
            go_wp2
            go_ret
            exact ⟨rfl, HHB.out⟩
          · have e5 : ((n : Int) != 4) = true := by simp; omega
            clear m2 e4
            go_wp2
            go_ret
            exact ⟨rfl, HHB.out⟩
  · have hfun : funB a0 f = false := by simpa using hfun
    rw [hfun] at HK
    have HW := Lib.hid fun w => walsh_Waves_no a0 f w hf hfun
    have HDg := Lib.hid fun w => walsh_Degree_no a0 f w hf hfun
    clear hfun
    go_enter Tryd.func3, Tryd.ntmps3
    go_wp2_with fail
    refine (HW.out _).mono ?_
    rintro e w' ⟨rfl, rfl⟩
    go_wp2_with fail
    refine (HDg.out _).mono ?_
    rintro e w' ⟨rfl, rfl⟩
    go_wp2_with fail
    refine (HK.out _).mono ?_
    rintro e w' ⟨rfl, rfl⟩
    go_wp2
    go_ret
    exact ⟨rfl, Below.refl _ _⟩
end Go.Proofs.YtabhmhojlhagcaaDoor

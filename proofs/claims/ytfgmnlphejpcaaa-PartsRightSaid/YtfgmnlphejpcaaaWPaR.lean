/- The walk of PartsRight. -/
import Derived.Test.YtfgmnlphejpcaaaMgC
import Derived.Test.YtfgmnlphejpcaaaMgB
import Derived.Test.YtfgmnlphejpcaaaMgB
namespace Go.Proofs.Ytfgmnlphejpcaaa
open Go.RowKit Go.Maps
set_option linter.unusedVariables false
set_option linter.unusedSimpArgs false
set_option maxRecDepth 20000 in
set_option maxHeartbeats 6400000 in
theorem WPartsRight (a0 : Int) (a1 : Int) (a2 : Option Addr) (len2 cap2 : Nat) (z2 : List Ga) (a3 : Option Addr) (len3 cap3 : Nat) (z3 : List Int) (a4 : Option Addr) (len4 cap4 : Nat) (z4 : List Int) (w : World) (w0 : (Lit.int .i64 a0).wf = true) (w1 : (Lit.int .i64 a1).wf = true) (w2 : IsGates w a2 len2 cap2 z2) (w3 : IsRow .i64 w a3 len3 cap3 z3) (s3 : len3 * 8 ≤ 140737488355328) (w4 : IsRow .i64 w a4 len4 cap4 z4) (s4 : len4 * 8 ≤ 140737488355328) :
    Calls Try.prog 12 #[.int .i64 a0, .int .i64 a1, .slice a2 len2 cap2, .slice a3 len3 cap3, .slice a4 len4 cap4] w fun e w' => e = .returned (.bool true) ∧ Below w.heap.size w w' := by
  obtain ⟨gl, gm, gr, _⟩ := w2
  obtain ⟨ins, il, ir, _, _⟩ := w3.longs
  obtain ⟨R, rl, rr, _, _⟩ := w4.longs
  clear w0 w1 w3 w4 z3 z4
  subst gl il rl
  have l2 : ins.length ≤ 4611686018427387904 := by omega
  have l3 : R.length ≤ 4611686018427387904 := by omega
  clear s3 s4
  by_cases hG : GoodG a0 z2 ins
  · have HCl := Lib.hid (parts_Clear a0 a2 a3 cap2 cap3 z2 ins w gr ir hG)
    by_cases hP : partiesB a0 a1 = true ∧ R.any (badB a0) = false
    · have hT := hP.1
      simp only [partiesB, Bool.and_eq_true, decide_eq_true_eq] at hT
      obtain ⟨t, rfl⟩ := Int.eq_ofNat_of_zero_le hT.1.1
      obtain ⟨n, hn⟩ : ∃ n, n = 2 * t + 1 := ⟨_, rfl⟩
      have HPl := Lib.hid fun W (hb : Below w.heap.size w W) => parts_Play a0 t n a2 a3 a4 cap2 cap3 cap4 z2 ins R W (gr.below hb (Nat.le_refl _)) (ir.below hb (Nat.le_refl _)) (rr.below hb (Nat.le_refl _)) hG hP.1 hP.2 l3 hn
      have HOp := Lib.hid fun f a c W (hf : PF a0 (t + 1) f) (h : RowL W a c (shV f a0 n)) => parts_Open a0 t n f a c W hG.pr (by omega) hn (by omega) hf h
      have HLn := Lib.hid (clearTo_len (p := a0) (ins := ins) (Nat.le_refl z2.length))
      have hl1 := hG.lg
      have hn1 : 0 < n := by omega
      obtain ⟨m, hm⟩ : ∃ m, ins.length = m := ⟨_, rfl⟩
      obtain ⟨N, hN⟩ : ∃ m, z2.length = m := ⟨_, rfl⟩
      obtain ⟨RL, hRL⟩ : ∃ m, R.length = m := ⟨_, rfl⟩
      rw [hm, hN] at HCl
      rw [hm, hN, hRL] at HPl
      rw [hN] at HLn hl1
      rw [hm, hN, hRL]
      obtain ⟨cl, hcl⟩ : ∃ l, clearTo a0 ins z2 N = l := ⟨_, rfl⟩
      rw [hcl] at HCl HPl HLn
      clear gm gr ir rr l2 l3 hG hP hT hn hm hN hRL hcl
      go_enter Try.func12, Try.ntmps12
      go_wp2_with fail
      refine HCl.out.mono ?_
      rintro e w1 ⟨⟨v1, rfl, ho1⟩, hb1⟩
      obtain ⟨b1, d1, rfl, hc1⟩ := own_any ho1
      have HC1 := Lib.hid hc1
      clear ho1 hc1
      go_wp2_with fail
      refine (HPl.out _ hb1).mono ?_
      rintro e w2 ⟨⟨v2, vs, rfl, ho2, hs2⟩, hb2⟩
      obtain ⟨b2, d2, rfl, hc2⟩ := own_any ho2
      have HC2 := Lib.hid hc2
      have HS := Lib.hid hs2
      have HB1 := Lib.hid hb1
      have HB2 := Lib.hid hb2
      clear ho2 hc2 hs2 hb1 hb2
      go_wp2_with fail
      go_loopw [15] (fun iv wr => ∃ I : Nat, iv = .int .i64 I ∧ I ≤ N ∧ Hid (Below w2.heap.size w2 wr)) (fun iv _ => N - (intOf iv).toNat)
      case atStart => exact ⟨0, rfl, by omega, Lib.hid (Below.refl _ _)⟩
      case round =>
        obtain ⟨I, rfl, hI, HB⟩ := hrel
        by_cases hIe : I = N
        · subst hIe
          go_wp2_with fail
          go_ret
          exact ⟨rfl, below_two (below_two HB1.out HB2.out) HB.out⟩
        · have hI2 : (I : Int) < N := by omega
          have hI3 : I < N := by omega
          obtain ⟨f, v, q1, q2, q3, q4⟩ := HS.out.at' I (by rw [HLn.out]; exact hI3)
          obtain ⟨g, cc, rfl, hg, _, _, _⟩ := own_shape q4 hn1
          obtain ⟨go, rfl, kv0⟩ := HC2.out I _ q1
          have q3' : (inV cl)[I]? = some (.int .i64 (f 0 % a0)) := by rw [inV, List.getElem?_map, q3]; rfl
          obtain ⟨gc, rfl, kx0⟩ := HC1.out I _ q3'
          have kv := kept HB.out kv0 (World.block_lt_of_cell? _ _ kv0)
          have kx1 := kept HB2.out kx0 (World.block_lt_of_cell? _ _ kx0)
          have kx := kept HB.out kx1 (World.block_lt_of_cell? _ _ kx1)
          have HO := Lib.hid (HOp.out f _ _ wr q2 ((row_ownL q4).below HB.out (Nat.le_refl _)))
          obtain ⟨x, hx⟩ : ∃ x, f 0 % a0 = x := ⟨_, rfl⟩
          rw [hx] at kx HO
          clear q1 q2 q3 q4 kv0 kx0 kx1 q3' hx hIe
          go_wp2_with fail
          refine HO.out.mono ?_
          rintro e w5 ⟨rfl, hb5⟩
          have kx5 := kept hb5 kx (World.block_lt_of_cell? _ _ kx)
          have HB5 := Lib.hid (below_two HB.out hb5)
          clear hb5 kv kx
          go_wp2_with fail
          go_round
          case rel => exact ⟨I + 1, by go_num, by omega, HB5⟩
          case measure => simp [intOf]; omega
    · have HPl := Lib.hid fun W (hb : Below w.heap.size w W) => parts_Play_bad a0 a1 a2 a3 a4 cap2 cap3 cap4 z2 ins R W (gr.below hb (Nat.le_refl _)) (ir.below hb (Nat.le_refl _)) (rr.below hb (Nat.le_refl _)) gm l2 l3 (fun h => hP h.2)
      have HGc := Lib.hid fun W (hb : Below w.heap.size w W) => ref_GatesCheck a0 a2 a3 cap2 cap3 z2 ins W (gr.below hb (Nat.le_refl _)) (ir.below hb (Nat.le_refl _)) gm (by omega)
      obtain ⟨m, hm⟩ : ∃ m, ins.length = m := ⟨_, rfl⟩
      obtain ⟨N, hN⟩ : ∃ m, z2.length = m := ⟨_, rfl⟩
      obtain ⟨RL, hRL⟩ : ∃ m, R.length = m := ⟨_, rfl⟩
      rw [hm, hN] at HCl HGc
      rw [hm, hN, hRL] at HPl
      rw [hm, hN, hRL]
      clear gm gr ir rr l2 l3 hG hP hm hN hRL
      go_enter Try.func12, Try.ntmps12
      go_wp2_with fail
      refine HCl.out.mono ?_
      rintro e w1 ⟨⟨v1, rfl, ho1⟩, hb1⟩
      clear ho1
      go_wp2_with fail
      refine (HPl.out _ hb1).mono ?_
      rintro e w2 ⟨⟨E, hE, rfl⟩, hb2⟩
      have hb3 := below_two hb1 hb2
      have e1 : (E != 0) = true := by simpa using hE
      have e2 : (E == 0) = false := by simpa using hE
      clear hE hb1 hb2
      go_wp2_with fail
      refine (HGc.out _ hb3).mono ?_
      rintro e w4 ⟨⟨E4, rfl⟩, hb4⟩
      have hb5 := below_two hb3 hb4
      clear hb3 hb4
      by_cases h4 : E4 = 0
      · subst h4
        go_wp2_with fail
        go_ret
        exact ⟨rfl, hb5⟩
      · have e3 : (E4 == 0) = false := by simpa using h4
        go_wp2_with fail
        go_ret
        exact ⟨rfl, hb5⟩
  · have HCl := Lib.hid (parts_Clear_bad a0 a2 a3 cap2 cap3 z2 ins w gr ir gm l2 hG)
    have HPl := Lib.hid fun W (hb : Below w.heap.size w W) => parts_Play_bad a0 a1 a2 a3 a4 cap2 cap3 cap4 z2 ins R W (gr.below hb (Nat.le_refl _)) (ir.below hb (Nat.le_refl _)) (rr.below hb (Nat.le_refl _)) gm l2 l3 (fun h => hG h.1)
    obtain ⟨m, hm⟩ : ∃ m, ins.length = m := ⟨_, rfl⟩
    obtain ⟨N, hN⟩ : ∃ m, z2.length = m := ⟨_, rfl⟩
    obtain ⟨RL, hRL⟩ : ∃ m, R.length = m := ⟨_, rfl⟩
    rw [hm, hN] at HCl
    rw [hm, hN, hRL] at HPl
    rw [hm, hN, hRL]
    clear gm gr ir rr l2 l3 hG hm hN hRL
    go_enter Try.func12, Try.ntmps12
    go_wp2_with fail
    refine HCl.out.mono ?_
    rintro e w1 ⟨⟨E1, hE1, rfl⟩, hb1⟩
    have d1 : (E1 != 0) = true := by simpa using hE1
    have d2 : (E1 == 0) = false := by simpa using hE1
    clear hE1
    go_wp2_with fail
    refine (HPl.out _ hb1).mono ?_
    rintro e w2 ⟨⟨E, hE, rfl⟩, hb2⟩
    have hb3 := below_two hb1 hb2
    have e1 : (E != 0) = true := by simpa using hE
    have e2 : (E == 0) = false := by simpa using hE
    clear hE hb1 hb2
    go_wp2_with fail
    go_ret
    exact ⟨rfl, hb3⟩
end Go.Proofs.Ytfgmnlphejpcaaa

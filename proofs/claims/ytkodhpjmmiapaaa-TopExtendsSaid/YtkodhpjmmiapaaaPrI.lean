/- The contract of the iterator of package primes: it hands over the primes of a number with their exponents. -/
import Derived.Test.YtkodhpjmmiapaaaRF
import Derived.Test.YtkodhpjmmiapaaaPrM
import Derived.Test.YtkodhpjmmiapaaaRows
import Derived.Lib.Hide
namespace Go.Proofs.Ytkodhpjmmiapaaa
open Go.RowKit Go.Shelf
attribute [local go_sem] Oper.semAt_some
set_option linter.unusedVariables false
set_option linter.unusedSimpArgs false
def encP (x : Nat × Nat) : Value := .agg #[.int .i64 x.1, .int .i64 x.2]
theorem powers_iter (N : Nat) (h1 : 1 ≤ N) (h2 : N ≤ 1048576) : IterC Try.prog 49 2 encP (M.fac N) (.int .i64 N) := by
  intro n l Bn J Jx W hset hY h0 hB
  refine callsIn_of_wp Try.func49 rfl trivial ?_ rfl
  simp only [Try.ntmps49, List.size_toArray, List.length_cons, List.length_nil, Nat.reduceAdd, Nat.reduceSub, Array.replicate_succ, Array.replicate_zero, List.push_toArray, List.append_toArray, List.nil_append, List.cons_append]
  gi_wp2
  gi_loopw [3] (fun p wr => ∃ (pre : List (Nat × Nat)) (p' m : Nat), p = .int .i64 p' ∧ M.FRel N pre p' m ∧ J pre wr ∧ Boxed wr Bn 2 (.int .i64 m))
    (fun p wr => (intOf ((wr.cell? ⟨Bn, 0, none⟩).getD undef)).toNat + 1 - (intOf p).toNat)
  case atStart => exact ⟨[], 2, N, rfl, M.FRel.init (by omega), h0, hB⟩
  case round =>
    obtain ⟨pre, p, m, rfl, hf, hj, hb⟩ := hrel
    have hc := hb.cell
    have hfz := hb.frozen
    have HF := Lib.hid hf
    have ⟨f0, _, g2, g3, g4, _, _, g7⟩ := hf
    clear hf
    have HJ := Lib.hid hj
    have HB := Lib.hid hb
    clear hj hb
    by_cases hm1 : 1 < m
    · have pl : (p : Int) ≤ 1048578 := by omega
      have pp1 : (p : Int) * p ≤ 1048578 * 1048578 := Int.mul_le_mul (by omega) (by omega) (by omega) (by omega)
      have pp0 : (0 : Int) ≤ (p : Int) * p := Int.mul_nonneg (by omega) (by omega)
      have key : ∃ q : Nat, q = (if m < p * p then m else p) ∧ (((m : Int) < (p : Int) * p ∧ q = m) ∨ (¬ (m : Int) < (p : Int) * p ∧ q = p)) := by
        by_cases hlt : m < p * p
        · exact ⟨m, by rw [if_pos hlt], .inl ⟨by have : ((p * p : Nat) : Int) = (p : Int) * p := Int.natCast_mul _ _
                                                 omega, rfl⟩⟩
        · exact ⟨p, by rw [if_neg hlt], .inr ⟨by have : ((p * p : Nat) : Int) = (p : Int) * p := Int.natCast_mul _ _
                                                 omega, rfl⟩⟩
      obtain ⟨q, hq, hqc⟩ := key
      have hst := HF.out.step hm1 hq (K := (M.strip m q m).1) (M := (M.strip m q m).2) rfl
      obtain ⟨q2, qm, pq, mp, mm, hz, hs, hme⟩ := hst
      have HZ := Lib.hid hz
      have HS := Lib.hid hs
      have HM := Lib.hid hme
      clear hz hs hme hq mp mm
      rcases hqc with ⟨hlt, rfl⟩ | ⟨hlt, rfl⟩
      · skip
        gi_wp2
        gi_loopw [4] (fun k w2 => ∃ K M' : Nat, k = .int .i64 K ∧ M.Strip q q K M' ∧ J pre w2 ∧ Boxed w2 Bn 2 (.int .i64 M'))
          (fun _ w2 => (intOf ((w2.cell? ⟨Bn, 0, none⟩).getD undef)).toNat)
        case atStart => exact ⟨0, _, rfl, M.Strip.init (by omega), HJ.out, HB.out⟩
        case round =>
          obtain ⟨K, M', rfl, hst, hj2, hb2⟩ := hrel
          have hc2 := hb2.cell
          have hfz2 := hb2.frozen
          have ⟨r0, r1, r2, _⟩ := hst
          by_cases hd : M' % q = 0
          · have HST := Lib.hid (hst.step q2 hd)
            have hd' : ((M' : Int) % (q : Int) == 0) = true := by simp; omega
            have HJ2 := Lib.hid (hset _ _ (.int .i64 ((M' / q : Nat) : Int)) hj2)
            have HB2 := Lib.hid (hb2.set (.int .i64 ((M' / q : Nat) : Int)))
            have hlt' : M' / q < M' := Nat.div_lt_self r0 q2
            have qq0 : 0 ≤ (M' : Int) / (q : Int) := Int.ediv_nonneg (by omega) (by omega)
            have qq1 : (M' : Int) / (q : Int) ≤ M' := Int.ediv_le_self _ (by omega)
            have EQ : Hid (((M' / q : Nat) : Int) = (M' : Int) / (q : Int)) := Int.natCast_ediv _ _
            clear hst hd hj2 hb2
            gi_wp2
            go_roundw
            case rel => exact ⟨K + 1, M' / q, by go_num, HST.out, by rw [← EQ.out]; exact HJ2.out, by rw [← EQ.out]; exact HB2.out⟩
            case measure =>
              have h5 := HB2.out.cell
              rw [EQ.out] at h5
              rw [h5, hc2]
              simp [intOf]
              rw [← EQ.out]
              omega
          · have hfin := hst.fin hd
            have hd' : ((M' : Int) % (q : Int) == 0) = false := by simp; omega
            have hz := HZ.out
            have hs := HS.out
            have hme := HM.out
            rw [hfin] at hz hs hme
            simp only at hz hs hme
            have HJ2 := Lib.hid hj2
            have HB2 := Lib.hid hb2
            have HZ2 := Lib.hid hz
            have HS2 := Lib.hid hs
            clear hst hd hj2 hb2 hz hs hfin
            by_cases hK : 0 < K
            · obtain ⟨fn, tmps, assign, body, hy, hR⟩ := hY pre (q, K) _ HJ2.out (HS2.out hK).2
              have HR := Lib.hid hR
              clear hR
              dsimp only [encP] at hy
              gi_wp2
              refine ⟨fun h => (by cases h), HR.out.mono ?_⟩
              rintro e W3 (⟨rfl, hJ3, hk3⟩ | ⟨rfl, hJx3⟩)
              · have hb3 := hk3 _ HB2.out
                have HB3 := Lib.hid hb3
                have hc3 := hb3.cell
                clear hb3 hk3
                gi_wp2
                go_roundw
                case rel => exact ⟨pre ++ [(q, K)], q + 1, M', by go_num, (HS2.out hK).1, hJ3, HB3.out⟩
                case measure => rw [hc3, hc]; simp [intOf]; omega
              · gi_wp2
                refine bodyPost_ret (results_none rfl _ _ _) rfl ?_
                exact ⟨⟨_, rfl⟩, .inr ⟨pre ++ [(q, K)], (HS2.out hK).2, hJx3⟩⟩
            · have hK0 : K = 0 := by omega
              have HK0 := Lib.hid hK0
              clear hK0
              gi_wp2
              refine ⟨fun _ h => (by cases h), ?_⟩
              gi_wp2
              go_roundw
              case rel => exact ⟨pre, q + 1, M', by go_num, (HZ2.out HK0.out).1, HJ2.out, HB2.out⟩
              case measure => rw [hc2, hc]; simp [intOf]; omega
      · skip
        gi_wp2
        gi_loopw [4] (fun k w2 => ∃ K M' : Nat, k = .int .i64 K ∧ M.Strip q m K M' ∧ J pre w2 ∧ Boxed w2 Bn 2 (.int .i64 M'))
          (fun _ w2 => (intOf ((w2.cell? ⟨Bn, 0, none⟩).getD undef)).toNat)
        case atStart => exact ⟨0, _, rfl, M.Strip.init (by omega), HJ.out, HB.out⟩
        case round =>
          obtain ⟨K, M', rfl, hst, hj2, hb2⟩ := hrel
          have hc2 := hb2.cell
          have hfz2 := hb2.frozen
          have ⟨r0, r1, r2, _⟩ := hst
          by_cases hd : M' % q = 0
          · have HST := Lib.hid (hst.step q2 hd)
            have hd' : ((M' : Int) % (q : Int) == 0) = true := by simp; omega
            have HJ2 := Lib.hid (hset _ _ (.int .i64 ((M' / q : Nat) : Int)) hj2)
            have HB2 := Lib.hid (hb2.set (.int .i64 ((M' / q : Nat) : Int)))
            have hlt' : M' / q < M' := Nat.div_lt_self r0 q2
            have qq0 : 0 ≤ (M' : Int) / (q : Int) := Int.ediv_nonneg (by omega) (by omega)
            have qq1 : (M' : Int) / (q : Int) ≤ M' := Int.ediv_le_self _ (by omega)
            have EQ : Hid (((M' / q : Nat) : Int) = (M' : Int) / (q : Int)) := Int.natCast_ediv _ _
            clear hst hd hj2 hb2
            gi_wp2
            go_roundw
            case rel => exact ⟨K + 1, M' / q, by go_num, HST.out, by rw [← EQ.out]; exact HJ2.out, by rw [← EQ.out]; exact HB2.out⟩
            case measure =>
              have h5 := HB2.out.cell
              rw [EQ.out] at h5
              rw [h5, hc2]
              simp [intOf]
              rw [← EQ.out]
              omega
          · have hfin := hst.fin hd
            have hd' : ((M' : Int) % (q : Int) == 0) = false := by simp; omega
            have hz := HZ.out
            have hs := HS.out
            have hme := HM.out
            rw [hfin] at hz hs hme
            simp only at hz hs hme
            have HJ2 := Lib.hid hj2
            have HB2 := Lib.hid hb2
            have HZ2 := Lib.hid hz
            have HS2 := Lib.hid hs
            clear hst hd hj2 hb2 hz hs hfin
            by_cases hK : 0 < K
            · obtain ⟨fn, tmps, assign, body, hy, hR⟩ := hY pre (q, K) _ HJ2.out (HS2.out hK).2
              have HR := Lib.hid hR
              clear hR
              dsimp only [encP] at hy
              gi_wp2
              refine ⟨fun h => (by cases h), HR.out.mono ?_⟩
              rintro e W3 (⟨rfl, hJ3, hk3⟩ | ⟨rfl, hJx3⟩)
              · have hb3 := hk3 _ HB2.out
                have HB3 := Lib.hid hb3
                have hc3 := hb3.cell
                clear hb3 hk3
                gi_wp2
                go_roundw
                case rel => exact ⟨pre ++ [(q, K)], q + 1, M', by go_num, (HS2.out hK).1, hJ3, HB3.out⟩
                case measure => rw [hc3, hc]; simp [intOf]; omega
              · gi_wp2
                refine bodyPost_ret (results_none rfl _ _ _) rfl ?_
                exact ⟨⟨_, rfl⟩, .inr ⟨pre ++ [(q, K)], (HS2.out hK).2, hJx3⟩⟩
            · have hK0 : K = 0 := by omega
              have HK0 := Lib.hid hK0
              clear hK0
              gi_wp2
              refine ⟨fun _ h => (by cases h), ?_⟩
              gi_wp2
              go_roundw
              case rel => exact ⟨pre, q + 1, M', by go_num, (HZ2.out HK0.out).1, HJ2.out, HB2.out⟩
              case measure => rw [hc2, hc]; simp [intOf]; omega
    · have HE := Lib.hid (HF.out.fin (by omega))
      gi_wp2
      go_end0
      exact ⟨⟨_, rfl⟩, .inl (by show J (M.fac' N) wr; rw [HE.out]; exact HJ.out)⟩
end Go.Proofs.Ytkodhpjmmiapaaa

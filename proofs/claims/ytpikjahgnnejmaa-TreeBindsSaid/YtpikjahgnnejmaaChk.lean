/- The contract of the iterator of slices.Chunk over uint32s, by two. -/
import Derived.Test.YtpikjahgnnejmaaRC
import Derived.Test.YtpikjahgnnejmaaTr2
namespace Go.Proofs.Ytpikjahgnnejmaa
open Go.RowKit Go.Shelf
attribute [local go_sem] Oper.semAt_some
set_option linter.unusedVariables false
set_option linter.unusedSimpArgs false
/-- what Chunk hands over: the k-th pair, or what is left -/
def encK (b o L : Nat) (k : Nat) : Array Value := #[.slice (some ⟨b, o + 2 * k, none⟩) (min 2 (L - 2 * k)) (min 2 (L - 2 * k))]
set_option maxRecDepth 20000 in
set_option maxHeartbeats 2000000 in
theorem chunk_iter (b o L c B1 B2 : Nat) (hl : L ≤ 64) (hLc : L ≤ c) (hc63 : c ≤ 9223372036854775807) :
    IterM Try.prog 67 #[.pointer (some ⟨B1, 0, none⟩), .pointer (some ⟨B2, 0, none⟩)] (encK b o L) (List.range ((L + 1) / 2)) (fun W => Boxed W B1 44 (.slice (some ⟨b, o, none⟩) L c) ∧ Boxed W B2 3 (.int .i64 2)) := by
  intro n l J Jx W hRd hDr hY h0
  have HDr := Lib.hid hDr
  clear hDr
  have HRd := Lib.hid hRd
  have HY := Lib.hid hY
  have hR0 := hRd _ _ h0
  have hc1 := hR0.1.cell
  have hc2 := hR0.2.cell
  have H0 := Lib.hid h0
  clear hR0 hRd hY h0
  refine callsIn_of_wp Try.func67 rfl trivial ?_ rfl
  simp only [Try.ntmps67, List.size_toArray, List.length_cons, List.length_nil, Nat.reduceAdd, Nat.reduceSub, Array.replicate_succ, Array.replicate_zero, List.push_toArray, List.append_toArray, List.nil_append, List.cons_append]
  gi_wp2
  gi_loopw [4] (fun s wr => ∃ K : Nat, s = .int .i64 (2 * (K : Int)) ∧ K ≤ (L + 1) / 2 ∧ J (List.range K) wr) (fun s _ => 200 - (intOf s).toNat)
  case atStart => exact ⟨0, rfl, Nat.zero_le _, H0.out⟩
  case round =>
    obtain ⟨K, rfl, hK, hj⟩ := hrel
    obtain ⟨hb1, hb2⟩ := HRd.out _ _ hj
    have d1 := hb1.cell
    have d2 := hb2.cell
    have e1 := hb1.frozen
    have e2 := hb2.frozen
    have HJ := Lib.hid hj
    clear hj hb1 hb2
    by_cases hlt : 2 * K < L
    · have i1 : 2 * (K : Int) < (L : Int) := by omega
      obtain ⟨M, hM⟩ : ∃ M, M = min 2 (L - 2 * K) := ⟨_, rfl⟩
      have hmin : (if ((L - 2 * K : Nat) : Int) < 2 then ((L - 2 * K : Nat) : Int) else 2) = (M : Int) := by rw [hM]; split <;> omega
      have hm1 : 2 * K + M ≤ L := by omega
      have hm2 : M ≤ 2 := by omega
      have hm3 : 1 ≤ M := by omega
      have HM := Lib.hid hM
      have hpre : List.range K ++ [K] <+: List.range ((L + 1) / 2) := by
        rw [← List.range_succ]
        have : List.range (K + 1) = (List.range ((L + 1) / 2)).take (K + 1) := by rw [List.take_range, Nat.min_eq_left (by omega)]
        rw [this]; exact List.take_prefix _ _
      obtain ⟨fn, tmps, assign, body, hy, hR⟩ := HY.out _ K _ (HDr.out _ _ HJ.out) hpre
      have HR := Lib.hid hR
      have HP := Lib.hid hpre
      clear hR hpre hM
      unfold encK at hy
      rw [← HM.out] at hy
      gi_wp2
      gi_region
      gi_wp2
      refine ⟨fun h => (by cases h), HR.out.mono ?_⟩
      rintro e W3 (⟨rfl, hJ3⟩ | ⟨rfl, hJx3⟩)
      · have f2 := (HRd.out _ _ hJ3).2.cell
        have HJ3 := Lib.hid hJ3
        clear hJ3
        gi_wp2
        go_roundw
        case rel => exact ⟨K + 1, by go_num, by omega, by rw [List.range_succ]; exact HJ3.out⟩
        case measure => simp [intOf]; omega
      · have HJ3 := Lib.hid hJx3
        clear hJx3
        gi_wp2
        refine bodyPost_ret (results_none rfl _ _ _) rfl ?_
        exact ⟨⟨_, rfl⟩, .inr ⟨_, HP.out, HJ3.out⟩⟩
    · have i1 : ¬ 2 * (K : Int) < (L : Int) := by omega
      have HKe := Lib.hid (show K = (L + 1) / 2 by omega)
      gi_wp2
      go_end0
      exact ⟨⟨_, rfl⟩, .inl (by rw [← HKe.out]; exact HJ.out)⟩
set_option maxHeartbeats 800000 in
theorem slices_Chunk (a : Option Addr) (len c : Nat) (w : World) :
    Calls Try.prog 64 #[.slice a len c, .int .i64 2] w fun e w' => e = .returned (.func (.func 67) #[] #[.pointer (some ⟨w.heap.size, 0, none⟩), .pointer (some ⟨w.heap.size + 1, 0, none⟩)]) ∧ w' = (w.alloc (.cells #[.slice a len c] 44)).alloc (.cells #[.int .i64 2] 3) := by
  go_enter Try.func64, Try.ntmps64
  go_wp2
  go_ret
  exact ⟨rfl, rfl⟩
end Go.Proofs.Ytpikjahgnnejmaa

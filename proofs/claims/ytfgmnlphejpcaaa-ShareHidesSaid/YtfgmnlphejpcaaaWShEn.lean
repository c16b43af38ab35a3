/- The walk of ShareEnough. -/
import Derived.Test.YtfgmnlphejpcaaaFew
import Derived.Test.YtfgmnlphejpcaaaSplitB
namespace Go.Proofs.Ytfgmnlphejpcaaa
open Go.RowKit Go.Maps
set_option linter.unusedVariables false
set_option linter.unusedSimpArgs false
theorem wf32 {a : Int} (h : (Lit.int .u32 a).wf = true) : 0 ≤ a ∧ a ≤ 4294967295 := by
  simpa [Lit.wf, IntKind.min, IntKind.max, IntKind.signed, go_sem] using h
theorem few_wrong {p : Int} {xs : List Int} {n : Nat} {qs : List (Int × Int)} (hpr : primeE p = 0) (hn : (n : Int) < p) (hs : qs.Sublist (ptsL p xs n)) (hl : qs.length ≤ 13) : wrongE p qs = 0 := by
  have hp := primeE_zero hpr
  unfold wrongE
  rw [if_neg (by simpa using hpr), if_neg (by omega), if_neg, if_pos ((hs.map _).nodup (ptsL_nodup p xs n))]
  rw [Bool.not_eq_true, List.any_eq_false]
  intro v hv
  obtain ⟨v1, v2, v3⟩ := ptsL_mem (hs.subset hv)
  have := val_rng' (show 1 ≤ p by omega) xs v.1
  simp [badP, badB]
  omega
theorem few_long {p : Int} {qs : List (Int × Int)} (hpr : primeE p = 0) (hl : 13 < qs.length) : wrongE p qs ≠ 0 := by
  unfold wrongE
  rw [if_neg (by simpa using hpr), if_pos hl]
  decide
theorem enough_law {p s : Int} {more : List Int} {n : Nat} {qs : List (Int × Int)} {A : List Int} (g : GoodS p s more n) (hs : qs.Sublist (ptsL p (s :: more) n)) (hA : TPost p qs A) (hl : more.length < qs.length) : valL p A 0 = s := by
  have hp := primeE_zero g.pr
  have hnp := g.np
  have h := uniq_law hp.2.2 hp.1 (A := A) (B := s :: more) (n := qs.length) hA.ar hA.an (by simp; omega) (qs.map (·.1)) ((hs.map _).nodup (ptsL_nodup p _ n)) (fun x hx => by
    obtain ⟨v, hv, rfl⟩ := List.mem_map.1 hx
    obtain ⟨v1, v2, v3⟩ := ptsL_mem (hs.subset hv)
    omega) (by simp) (fun x hx => by
    obtain ⟨v, hv, rfl⟩ := List.mem_map.1 hx
    obtain ⟨v1, v2, v3⟩ := ptsL_mem (hs.subset hv)
    rw [hA.hit v hv, v3]) 0
  rw [h, valL_ev]
  show (s + 0 * ev more 0) % p = s
  have := g.all s (by simp)
  rw [Int.zero_mul, Int.add_zero, Int.emod_eq_of_lt this.1 this.2]
set_option maxRecDepth 100000 in
set_option maxHeartbeats 6400000 in
theorem WShareEnough (a0 : Int) (a1 : Int) (a2 : Option Addr) (len2 cap2 : Nat) (z2 : List Int) (a3 : Int) (a4 : Int) (w : World) (w0 : (Lit.int .i64 a0).wf = true) (w1 : (Lit.int .i64 a1).wf = true) (w2 : IsRow .i64 w a2 len2 cap2 z2) (w3 : (Lit.int .i64 a3).wf = true) (w4 : (Lit.int .u32 a4).wf = true) :
    Calls Try.prog 9 #[.int .i64 a0, .int .i64 a1, .slice a2 len2 cap2, .int .i64 a3, .int .u32 a4] w fun e w' => e = .returned (.bool true) ∧ Below w.heap.size w w' := by
  obtain ⟨ms, e2, h2, _, m2⟩ := w2.longs
  obtain ⟨k1, k2⟩ := wf32 w4
  clear w0 w1 w2 w3 w4 z2
  unfold maxLen at m2
  have HR := Lib.hid h2
  have E2 := Lib.hid e2
  by_cases hg : GoodS a0 a1 ms a3
  · have G := Lib.hid hg
    have hnp := hg.np
    have hl2 : len2 ≤ 12 := by rw [← e2]; exact hg.len
    have hp := primeE_zero hg.pr
    obtain ⟨n, rfl⟩ := Int.eq_ofNat_of_zero_le hg.n0
    have HS := Lib.hid (share_Split a0 a1 n a2 cap2 ms w hg HR.out e2)
    have hn251 : n ≤ 251 := by omega
    clear hg h2 e2 hp
    go_enter Try.func9, Try.ntmps9
    go_wp2_with fail
    refine HS.out.mono ?_
    rintro e w1 ⟨⟨v1, rfl, ho1⟩, hb1⟩
    rw [ptsL_flat] at ho1
    obtain ⟨p1, c1, rfl, hp1⟩ := own_rowP (pts := ptsL a0 (a1 :: ms) n) (by rw [ptsL_len]; exact ho1)
    have HFew := Lib.hid (keep_few a4 p1 c1 _ w1 hp1 (ptsL_len _ _ _) (by omega) k1 k2)
    rw [ptsL_len]
    clear ho1 hp1
    go_wp2_with fail
    refine HFew.out.mono ?_
    rintro e w2 ⟨⟨v2, qs, rfl, ho2, hsub⟩, hb2⟩
    obtain ⟨p2, c2, rfl, hp2⟩ := own_rowP ho2
    have HSub := Lib.hid hsub
    have hb := below_two hb1 hb2
    have hql : qs.length ≤ 1000 := by have := hsub.length_le; rw [ptsL_len] at this; omega
    by_cases h13 : 13 < qs.length
    · have HJ := Lib.hid (share_Join_bad a0 p2 c2 qs w2 hp2 rfl (by omega) (few_long G.out.pr h13))
      obtain ⟨nq, hnq⟩ : ∃ n, qs.length = n := ⟨_, rfl⟩
      rw [hnq] at HJ h13 hql ⊢
      clear hnq hsub ho2 hp2 hb1 hb2
      go_wp2_with fail
      refine HJ.out.mono ?_
      rintro e w3 ⟨⟨t, ht, rfl⟩, hb3⟩
      clear ht
      go_wp2
      all_goals
        go_ret
        exact ⟨rfl, below_two hb hb3⟩
    · have HJ := Lib.hid (share_Join a0 p2 c2 qs w2 hp2 rfl (few_wrong G.out.pr hnp hsub (by omega)) (fun v hv => by have := ptsL_mem (hsub.subset hv); omega))
      obtain ⟨nq, hnq⟩ : ∃ n, qs.length = n := ⟨_, rfl⟩
      have HNQ := Lib.hid hnq
      rw [hnq] at HJ h13 hql ⊢
      clear hnq hsub ho2 hp2 hb1 hb2
      go_wp2_with fail
      refine HJ.out.mono ?_
      rintro e w3 ⟨⟨A, rfl, hpost⟩, hb3⟩
      have HPo := Lib.hid hpost
      clear hpost
      by_cases hle : nq ≤ len2
      · go_wp2
        go_ret
        exact ⟨rfl, below_two hb hb3⟩
      · have HLaw := enough_law G.out HSub.out HPo.out (by rw [HNQ.out, E2.out]; omega)
        rw [HLaw]
        clear HLaw
        have q1 : (a1 == a1) = true := by simp
        go_wp2
        go_ret
        exact ⟨rfl, below_two hb hb3⟩
  · have HS := Lib.hid (share_Split_bad a0 a1 a3 a2 cap2 ms w hg HR.out e2 m2)
    clear hg h2 e2
    go_enter Try.func9, Try.ntmps9
    go_wp2_with fail
    refine HS.out.mono ?_
    rintro e w1 ⟨⟨t, ht, rfl⟩, hb1⟩
    have q1 : (t == 0) = false := by simpa using ht
    have q2 : (t != 0) = true := by simpa using ht
    clear ht
    go_wp2
    go_ret
    exact ⟨rfl, hb1⟩
end Go.Proofs.Ytfgmnlphejpcaaa

/- The walk of PadFinds. -/
import Derived.Test.YtabhmhojlhagcaaPadP
import Derived.Test.YtabhmhojlhagcaaPadR
namespace Go.Proofs.Ytabhmhojlhagcaa
open Go.RowKit
set_option linter.unusedVariables false
set_option linter.unusedSimpArgs false
set_option maxHeartbeats 1600000 in
theorem find_bad (a : Option Addr) (c : Nat) (R : Nat → Option Addr × Nat) (rows : List (List Int)) (w : World) (L n : Nat) (k v : Int) (h : RowR w a c R rows) (hc : Cip rows L n) (hk : k < 0 ∨ L ≤ k) :
    Calls Try.prog 24 #[.slice a L c, .int .i64 k, .int .i64 v] w fun e w' => e = .returned (.tuple #[.int .i64 0, .int .i64 3]) ∧ Below w.heap.size w w' := by
  have HR := Lib.hid h
  have HCH := Lib.hid fun w h => pad_Check a c R rows w L h hc.len (by have := hc.l1; omega) (fun r hr => by rw [hc.row r hr]; have := hc.n1; omega)
  rw [(cpE_of hc).1] at HCH
  have l1 := hc.l1
  clear h hc
  by_cases k0 : k < 0
  · clear hk
    go_enter Try.func24, Try.ntmps24
    go_wp2_with fail
    refine (HCH.out _ HR.out).mono ?_
    rintro e w1 ⟨rfl, hb1⟩
    go_wp2
    go_ret2
    exact ⟨rfl, hb1⟩
  · have k1 : (L : Int) ≤ k := by omega
    clear hk
    go_enter Try.func24, Try.ntmps24
    go_wp2_with fail
    refine (HCH.out _ HR.out).mono ?_
    rintro e w1 ⟨rfl, hb1⟩
    go_wp2
    go_ret2
    exact ⟨rfl, hb1⟩
set_option maxHeartbeats 1600000 in
theorem find_in (a : Option Addr) (c : Nat) (R : Nat → Option Addr × Nat) (rows : List (List Int)) (w : World) (L n K : Nat) (v : Int) (r : List Int) (h : RowR w a c R rows) (hc : Cip rows L n) (hr : rows[K]? = some r) :
    Calls Try.prog 24 #[.slice a L c, .int .i64 K, .int .i64 v] w fun e w' => ((∃ m : Nat, FirstAt r v m ∧ e = .returned (.tuple #[.int .i64 m, .int .i64 0])) ∨ (v ∉ r ∧ e = .returned (.tuple #[.int .i64 0, .int .i64 5]))) ∧ Below w.heap.size w w' := by
  have HR := Lib.hid h
  have hK : K < L := by have := (List.getElem?_eq_some_iff.1 hr).1; have := hc.len; omega
  have HCH := Lib.hid fun w h => pad_Check a c R rows w L h hc.len (by have := hc.l1; omega) (fun r hr => by rw [hc.row r hr]; have := hc.n1; omega)
  rw [(cpE_of hc).1] at HCH
  have l1 := hc.l1
  have n1 := hc.n1
  have hrl := hc.row r (List.mem_of_getElem? hr)
  have HIX := Lib.hid fun w h => slices_IndexI (R K).1 (R K).2 r v w n h hrl (by omega)
  have HLN := Lib.hid hc.len
  have HRI := Lib.hid hr
  have HRL := Lib.hid hrl
  clear h hc hrl hr
  go_enter Try.func24, Try.ntmps24
  go_wp2_with fail
  refine (HCH.out _ HR.out).mono ?_
  rintro e w1 ⟨rfl, hb1⟩
  have HR1 := Lib.hid (HR.out.below hb1 (Nat.le_refl _))
  obtain ⟨b, o, rfl, hcell⟩ := HR1.out.shape (by rw [HLN.out]; omega)
  have kx := hcell K r HRI.out
  rw [HRL.out] at kx
  have HRW := Lib.hid (HR1.out.row K r HRI.out)
  clear hcell
  have i1 : (0 : Int) ≤ K := by omega
  have i2 : (K : Int) < L := by omega
  go_wp2_with fail
  refine (HIX.out _ HRW.out).mono ?_
  rintro e w' ⟨⟨m, hm, rfl⟩ | ⟨hm, rfl⟩, rfl⟩
  · have HM := Lib.hid hm
    clear hm
    go_wp2
    go_ret2
    exact ⟨.inl ⟨m, HM.out, rfl⟩, hb1⟩
  · have HM := Lib.hid hm
    clear hm
    go_wp2
    go_ret2
    exact ⟨.inr ⟨HM.out, rfl⟩, hb1⟩
set_option maxHeartbeats 1600000 in
theorem pf_no (a : Option Addr) (len cap : Nat) (R : Nat → Option Addr × Nat) (rows : List (List Int)) (k m : Int) (w : World) (hL : rows.length = len) (hl : len ≤ 9223372036854775807) (hr : RowR w a cap R rows) (hrl : ∀ r ∈ rows, r.length ≤ 9223372036854775807) (hf : ¬ cpE rows = 0) :
    Calls Try.prog 8 #[.slice a len cap, .int .i64 k, .int .i64 m] w fun e w' => e = .returned (.bool true) ∧ Below w.heap.size w w' := by
  have HR := Lib.hid hr
  have HP := Lib.hid fun w h => pad_Plain_no a cap R rows w len h hL hl hrl hf
  have HC := Lib.hid fun w h => ref_CipherCheck a cap R rows w len h hL hl hrl
  obtain ⟨t, ht⟩ : ∃ t, cpE rows = t := ⟨_, rfl⟩
  rw [ht] at hf HP HC
  have e1 : (t == 0) = false := by simpa using hf
  have e2 : (t != 0) = true := by simpa using hf
  clear ht hf hL hr hrl
  go_enter Try.func8, Try.ntmps8
  go_wp2_with fail
  refine (HP.out _ HR.out).mono ?_
  rintro e w1 ⟨rfl, hb1⟩
  have HR1 := Lib.hid (HR.out.below hb1 (Nat.le_refl _))
  go_wp2_with fail
  refine (HC.out _ HR1.out).mono ?_
  rintro e w' ⟨rfl, rfl⟩
  go_wp2
  go_ret
  exact ⟨rfl, hb1⟩
set_option maxHeartbeats 3200000 in
theorem pf_out (a : Option Addr) (len cap n : Nat) (R : Nat → Option Addr × Nat) (rows : List (List Int)) (k m : Int) (w : World) (hr : RowR w a cap R rows) (hc : Cip rows len n) (hk : k < 0 ∨ len ≤ k) :
    Calls Try.prog 8 #[.slice a len cap, .int .i64 k, .int .i64 m] w fun e w' => e = .returned (.bool true) ∧ Below w.heap.size w w' := by
  have HR := Lib.hid hr
  have l1 := hc.l1
  have HP := Lib.hid fun w h => pad_Plain a cap R rows w len n h hc
  have HC := Lib.hid fun w h => ref_CipherCheck a cap R rows w len h hc.len (by omega) (fun r hr => by rw [hc.row r hr]; have := hc.n1; omega)
  rw [(cpE_of hc).1] at HC
  have HF := Lib.hid fun w h => find_bad a cap R rows w len n k 0 h hc hk
  obtain ⟨T, hT⟩ : ∃ T, plainB rows = T := ⟨_, rfl⟩
  rw [hT] at HP
  clear hT hc hr
  by_cases k0 : k < 0
  · clear hk
    go_enter Try.func8, Try.ntmps8
    go_wp2_with fail
    refine (HP.out _ HR.out).mono ?_
    rintro e w1 ⟨rfl, hb1⟩
    have HR1 := Lib.hid (HR.out.below hb1 (Nat.le_refl _))
    go_wp2_with fail
    refine (HC.out _ HR1.out).mono ?_
    rintro e w' ⟨rfl, rfl⟩
    go_wp2_with fail
    refine (HF.out _ HR1.out).mono ?_
    rintro e w2 ⟨rfl, hb2⟩
    go_wp2
    go_ret
    exact ⟨rfl, below_two hb1 hb2⟩
  · have k1 : (len : Int) ≤ k := by omega
    have k2 : 0 ≤ k := by omega
    clear hk k0
    go_enter Try.func8, Try.ntmps8
    go_wp2_with fail
    refine (HP.out _ HR.out).mono ?_
    rintro e w1 ⟨rfl, hb1⟩
    have HR1 := Lib.hid (HR.out.below hb1 (Nat.le_refl _))
    go_wp2_with fail
    refine (HC.out _ HR1.out).mono ?_
    rintro e w' ⟨rfl, rfl⟩
    go_wp2_with fail
    refine (HF.out _ HR1.out).mono ?_
    rintro e w2 ⟨rfl, hb2⟩
    go_wp2
    go_ret
    exact ⟨rfl, below_two hb1 hb2⟩
set_option maxHeartbeats 3200000 in
theorem pf_out2 (a : Option Addr) (len cap n K : Nat) (R : Nat → Option Addr × Nat) (rows : List (List Int)) (r : List Int) (m : Int) (w : World) (hr : RowR w a cap R rows) (hc : Cip rows len n) (hK : rows[K]? = some r) (hm : m < 0 ∨ n ≤ m) :
    Calls Try.prog 8 #[.slice a len cap, .int .i64 K, .int .i64 m] w fun e w' => e = .returned (.bool true) ∧ Below w.heap.size w w' := by
  have HR := Lib.hid hr
  have l1 := hc.l1
  have n1 := hc.n1
  have hKl : K < len := by have := (List.getElem?_eq_some_iff.1 hK).1; have := hc.len; omega
  have HP := Lib.hid fun w h => pad_Plain a cap R rows w len n h hc
  have HC := Lib.hid fun w h => ref_CipherCheck a cap R rows w len h hc.len (by omega) (fun r hr => by rw [hc.row r hr]; have := hc.n1; omega)
  rw [(cpE_of hc).1] at HC
  have HF := Lib.hid fun w h => find_in a cap R rows w len n K 0 r h hc hK
  obtain ⟨T, hT⟩ : ∃ T, plainB rows = T := ⟨_, rfl⟩
  rw [hT] at HP
  have HLN := Lib.hid hc.len
  have HRI := Lib.hid hK
  have HRL := Lib.hid (hc.row r (List.mem_of_getElem? hK))
  have i1 : (0 : Int) ≤ K := by omega
  have i2 : (K : Int) < len := by omega
  clear hT hc hr hK
  have hm2 : m < 0 ∨ (0 ≤ m ∧ (n : Int) ≤ m) := by omega
  clear hm
  rcases hm2 with m0 | ⟨m0, m1⟩
  all_goals
    go_enter Try.func8, Try.ntmps8
    go_wp2_with fail
    refine (HP.out _ HR.out).mono ?_
    rintro e w1 ⟨rfl, hb1⟩
    have HR1 := Lib.hid (HR.out.below hb1 (Nat.le_refl _))
    obtain ⟨b, o, hbo, hcell⟩ := HR1.out.shape (by rw [HLN.out]; omega)
    have kx := hcell K r HRI.out
    rw [HRL.out] at kx
    subst hbo
    clear hcell
    go_wp2_with fail
    refine (HC.out _ HR1.out).mono ?_
    rintro e w' ⟨rfl, rfl⟩
    go_wp2_with fail
    refine (HF.out _ HR1.out).mono ?_
    rintro e w2 ⟨⟨q, hq, rfl⟩ | ⟨hq, rfl⟩, hb2⟩
    all_goals
      clear hq
      go_wp2
      go_ret
      exact ⟨rfl, below_two hb1 hb2⟩
set_option maxRecDepth 100000 in
set_option maxHeartbeats 6400000 in
theorem pf_go (a : Option Addr) (len cap n K M : Nat) (R : Nat → Option Addr × Nat) (rows : List (List Int)) (r : List Int) (w : World) (hr : RowR w a cap R rows) (hc : Cip rows len n) (hK : rows[K]? = some r) (hM : M < n) :
    Calls Try.prog 8 #[.slice a len cap, .int .i64 K, .int .i64 M] w fun e w' => e = .returned (.bool true) ∧ Below w.heap.size w w' := by
  have HR := Lib.hid hr
  have l1 := hc.l1
  have n1 := hc.n1
  have hKl : K < len := by have := (List.getElem?_eq_some_iff.1 hK).1; have := hc.len; omega
  have HP := Lib.hid fun w h => pad_Plain a cap R rows w len n h hc
  have HC := Lib.hid fun w h => ref_CipherCheck a cap R rows w len h hc.len (by omega) (fun r hr => by rw [hc.row r hr]; have := hc.n1; omega)
  rw [(cpE_of hc).1] at HC
  have hrl := hc.row r (List.mem_of_getElem? hK)
  obtain ⟨v, hv⟩ : ∃ v, r[M]? = some v := ⟨_, List.getElem?_eq_getElem (by omega)⟩
  have HF := Lib.hid fun w h => find_in a cap R rows w len n K v r h hc hK
  have HND : Hid (plainB rows = true → r.Nodup) := Lib.hid fun h => by simpa using List.all_eq_true.1 h r (List.mem_of_getElem? hK)
  obtain ⟨T, hT⟩ : ∃ T, plainB rows = T := ⟨_, rfl⟩
  rw [hT] at HP HND
  have HLN := Lib.hid hc.len
  have HRI := Lib.hid hK
  have HRL := Lib.hid hrl
  have HV := Lib.hid hv
  have i1 : (0 : Int) ≤ K := by omega
  have i2 : (K : Int) < len := by omega
  have i3 : (0 : Int) ≤ M := by omega
  have i4 : (M : Int) < n := by omega
  clear hT hc hr hK hrl hv
  go_enter Try.func8, Try.ntmps8
  go_wp2_with fail
  refine (HP.out _ HR.out).mono ?_
  rintro e w1 ⟨rfl, hb1⟩
  have HR1 := Lib.hid (HR.out.below hb1 (Nat.le_refl _))
  obtain ⟨b, o, hbo, hcell⟩ := HR1.out.shape (by rw [HLN.out]; omega)
  have kx := hcell K r HRI.out
  rw [HRL.out] at kx
  subst hbo
  have hrow := HR1.out.row K r HRI.out
  obtain ⟨b2, o2, hbo2, hcell2⟩ := hrow.shape (by rw [HRL.out]; omega)
  rw [hbo2] at kx
  have km := hcell2 M v HV.out
  have HC2 := Lib.hid hcell2
  clear hcell hrow hbo2 hcell2
  go_wp2_with fail
  refine (HC.out _ HR1.out).mono ?_
  rintro e w' ⟨rfl, rfl⟩
  go_wp2_with fail
  refine (HF.out _ HR1.out).mono ?_
  rintro e w2 ⟨⟨X, hX, rfl⟩ | ⟨hX, rfl⟩, hb2⟩
  · have hle : X ≤ M := by
      rcases Nat.lt_or_ge M X with h | h
      · exact absurd HV.out (hX.2 M h)
      · exact h
    have kX := HC2.out X v hX.1
    have kx2 := kept hb2 kx (World.block_lt_of_cell? _ _ kx)
    have km2 := kept hb2 km (World.block_lt_of_cell? _ _ km)
    have kX2 := kept hb2 kX (World.block_lt_of_cell? _ _ kX)
    have HX := Lib.hid hX
    have hbw := below_two hb1 hb2
    have i5 : (0 : Int) ≤ X := by omega
    have i6 : (X : Int) < n := by omega
    have i7 : (X : Int) ≤ M := by omega
    clear hX kx km kX hb1 hb2
    cases T with
    | false =>
      go_wp2_with fail
      go_quiet (fail)
      go_wp2
      go_ret
      exact ⟨rfl, below_drewN hbw _⟩
    | true =>
      have hnd := HND.out rfl
      have : X = M := by
        exact (List.getElem?_inj (List.getElem?_eq_some_iff.1 HX.out.1).1 hnd).1 (HX.out.1.trans HV.out.symm)
      subst this
      clear hnd
      go_wp2_with fail
      go_quiet (fail)
      go_wp2
      go_ret
      exact ⟨rfl, below_drewN hbw _⟩
  · exact absurd (List.mem_of_getElem? HV.out) hX
theorem WPadFinds (a0 : Option Addr) (len0 cap0 : Nat) (z0 : List (List Int)) (a1 : Int) (a2 : Int) (w : World) (w0 : IsMat w a0 len0 cap0 z0) (w1 : (Lit.int .i64 a1).wf = true) (w2 : (Lit.int .i64 a2).wf = true) :
    Calls Try.prog 8 #[.slice a0 len0 cap0, .int .i64 a1, .int .i64 a2] w fun e w' => e = .returned (.bool true) ∧ Below w.heap.size w w' := by
  obtain ⟨hL, hl, ⟨R, hr⟩, hrow⟩ := w0
  by_cases hf : cpE z0 = 0
  · have hc := cpE_zero hf
    rw [hL] at hc
    by_cases hk : a1 < 0 ∨ len0 ≤ a1
    · exact pf_out a0 len0 cap0 _ R z0 a1 a2 w hr hc hk
    · obtain ⟨K, rfl⟩ := Int.eq_ofNat_of_zero_le (show 0 ≤ a1 by omega)
      obtain ⟨r, hK⟩ : ∃ r, z0[K]? = some r := ⟨_, List.getElem?_eq_getElem (by omega)⟩
      by_cases hm : a2 < 0 ∨ n0L z0 ≤ a2
      · exact pf_out2 a0 len0 cap0 _ K R z0 r a2 w hr hc hK hm
      · obtain ⟨M, rfl⟩ := Int.eq_ofNat_of_zero_le (show 0 ≤ a2 by omega)
        exact pf_go a0 len0 cap0 _ K M R z0 r w hr hc hK (by omega)
  · exact pf_no a0 len0 cap0 R z0 a1 a2 w hL hl hr (fun r h => (hrow r h).1) hf
end Go.Proofs.Ytabhmhojlhagcaa

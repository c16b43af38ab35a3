/- The contract of lockwrightref.CipherCheck. -/
import Derived.Test.YtabhmhojlhagcaaPadC
namespace Go.Proofs.Ytabhmhojlhagcaa
open Go.RowKit
set_option linter.unusedVariables false
set_option linter.unusedSimpArgs false
set_option maxHeartbeats 3200000 in
theorem ref_CipherCheck (a : Option Addr) (c : Nat) (R : Nat → Option Addr × Nat) (rows : List (List Int)) (w : World) (L : Nat) (h : RowR w a c R rows) (hL : rows.length = L) (hl : L ≤ 9223372036854775807) (hrl : ∀ r ∈ rows, r.length ≤ 9223372036854775807) :
    Calls Try.prog 23 #[.slice a L c] w fun e w' => e = .returned (.int .i64 (cpE rows)) ∧ w = w' := by
  have HR := Lib.hid h
  have HL := Lib.hid hL
  have HF := cpF rows
  rw [hL] at HF
  obtain ⟨n, hn⟩ : ∃ n, n0L rows = n := ⟨_, rfl⟩
  obtain ⟨F, hF⟩ : ∃ F, cpE rows = F := ⟨_, rfl⟩
  rw [hn, hF] at HF
  rw [hF]
  have HN := Lib.hid hn
  have HRL := Lib.hid hrl
  clear hF hn h hL hrl
  by_cases h1 : 16 < L
  · obtain rfl := HF.big h1
    clear HF
    go_enter Try.func23, Try.ntmps23
    go_wp2
    go_ret
    exact ⟨rfl, rfl⟩
  go_enter Try.func23, Try.ntmps23
  go_wp2
  go_loop [16] (fun i => ∃ I : Nat, i = .int .i64 I ∧ I ≤ L ∧ Hid (∀ (j : Nat) r, j < I → rows[j]? = some r → r.length ≤ 16)) (fun i => L - (intOf i).toNat)
  case atStart => exact ⟨0, rfl, by omega, Lib.hid (fun j x h => absurd h (Nat.not_lt_zero _))⟩
  case round =>
    obtain ⟨I, rfl, hI, HA⟩ := hrel
    by_cases hlt : I < L
    · obtain ⟨r, hr⟩ : ∃ r, rows[I]? = some r := ⟨_, List.getElem?_eq_getElem (by rw [HL.out]; exact hlt)⟩
      obtain ⟨b, o, rfl, hc⟩ := HR.out.shape (by rw [HL.out]; omega)
      have kx := hc I r hr
      have rl := HRL.out r (List.mem_of_getElem? hr)
      obtain ⟨M, hM⟩ : ∃ M, r.length = M := ⟨_, rfl⟩
      rw [hM] at kx rl
      have HRI := Lib.hid hr
      have HMM := Lib.hid hM
      clear hc hr hM
      have i1 : (0 : Int) ≤ I := by omega
      have i2 : (I : Int) < L := by omega
      by_cases h : 16 < M
      · obtain rfl := HF.too (tooB_yes (List.mem_of_getElem? HRI.out) (by rw [HMM.out]; exact h))
        clear HF
        go_wp2
        go_ret
        exact ⟨rfl, rfl⟩
      · go_wp2
        go_round
        case rel =>
          refine ⟨I + 1, by go_num, by omega, Lib.hid (fun j y hj hy => ?_)⟩
          by_cases e : j = I
          · subst e
            have := HRI.out
            rw [hy] at this
            rw [Option.some.inj this, HMM.out]; omega
          · exact HA.out j y (by omega) hy
        case measure => simp [intOf]; omega
    · have HT := Lib.hid (tooB_of (rows := rows) fun r hr => by
        obtain ⟨j, hj⟩ := List.getElem?_of_mem hr
        exact HA.out j r (by have := (List.getElem?_eq_some_iff.1 hj).1; have := HL.out; omega) hj)
      clear HA
      obtain rfl : I = L := by omega
      by_cases h0 : I = 0
      · obtain rfl := HF.none h1 HT.out (.inl h0)
        subst h0
        clear HF
        go_wp2
        go_ret
        exact ⟨rfl, rfl⟩
      obtain ⟨r0, hr0⟩ : ∃ r, rows[0]? = some r := ⟨_, List.getElem?_eq_getElem (by rw [HL.out]; omega)⟩
      have hrn := n0L_at hr0
      rw [HN.out] at hrn
      have hn2 : n ≤ 16 := by rw [hrn]; exact tooB_no HT.out r0 (List.mem_of_getElem? hr0)
      obtain ⟨b, o, rfl, hc⟩ := HR.out.shape (by rw [HL.out]; omega)
      have kz := hc 0 r0 hr0
      rw [← hrn, Nat.add_zero] at kz
      have nl3 : ¬ I = 0 := h0
      have nl4 : (I == 0) = false := by simpa using h0
      have nl5 : ((I : Int) == 0) = false := by simp; omega
      have nl6 : 0 < I := by omega
      clear hc hr0 hrn
      by_cases hz : n = 0
      · obtain rfl := HF.none h1 HT.out (.inr hz)
        subst hz
        clear HF
        go_wp2
        go_ret
        exact ⟨rfl, rfl⟩
      have nz4 : (n == 0) = false := by simpa using hz
      have nz5 : ((n : Int) == 0) = false := by simp; omega
      go_wp2
      go_loop [36] (fun i => ∃ J : Nat, i = .int .i64 J ∧ J ≤ I ∧ Hid (∀ (j : Nat) r, j < J → rows[j]? = some r → r.length = n)) (fun i => I - (intOf i).toNat)
      case atStart => exact ⟨0, rfl, by omega, Lib.hid (fun j x h => absurd h (Nat.not_lt_zero _))⟩
      case round =>
        obtain ⟨J, rfl, hJ, HA⟩ := hrel
        by_cases hlt : J < I
        · obtain ⟨r, hr⟩ : ∃ r, rows[J]? = some r := ⟨_, List.getElem?_eq_getElem (by rw [HL.out]; exact hlt)⟩
          obtain ⟨b', o', hbo, hc⟩ := HR.out.shape (by rw [HL.out]; omega)
          cases hbo
          have kx := hc J r hr
          have rl := HRL.out r (List.mem_of_getElem? hr)
          obtain ⟨M, hM⟩ : ∃ M, r.length = M := ⟨_, rfl⟩
          rw [hM] at kx rl
          have HRI := Lib.hid hr
          have HMM := Lib.hid hM
          clear hc hr hM
          have i1 : (0 : Int) ≤ J := by omega
          have i2 : (J : Int) < I := by omega
          by_cases h : M = n
          · subst h
            go_wp2
            go_round
            case rel =>
              refine ⟨J + 1, by go_num, by omega, Lib.hid (fun j y hj hy => ?_)⟩
              by_cases e : j = J
              · subst e
                have := HRI.out
                rw [hy] at this
                rw [Option.some.inj this]; exact HMM.out
              · exact HA.out j y (by omega) hy
            case measure => simp [intOf]; omega
          · obtain rfl := HF.form h1 HT.out (by omega) (longB_yes (List.mem_of_getElem? HRI.out) (by rw [HMM.out]; exact h))
            have e1 : (M == n) = false := by simpa using h
            have e2 : ((M : Int) == n) = false := by simp; omega
            have e3 : ((M : Int) != n) = true := by simp; omega
            clear h HF
            go_wp2
            go_ret
            exact ⟨rfl, rfl⟩
        · have hln := longB_of (n := n) (rows := rows) fun r hr => by
            obtain ⟨j, hj⟩ := List.getElem?_of_mem hr
            exact HA.out j r (by have := (List.getElem?_eq_some_iff.1 hj).1; have := HL.out; omega) hj
          have HLN := Lib.hid (longB_no hln)
          have HOY : Hid (outB 4096 rows = true → F = 2) := Lib.hid fun h => HF.rng h1 HT.out (by omega) hln h
          have HON : Hid (outB 4096 rows = false → F = 0) := Lib.hid fun h => HF.ok h1 HT.out (by omega) hln h
          clear HA HF hln
          obtain rfl : J = I := by omega
          go_wp2
          go_loop [50] (fun i => ∃ I : Nat, i = .int .i64 I ∧ I ≤ J ∧ Hid (∀ (j : Nat) r, j < I → rows[j]? = some r → ∀ x ∈ r, 0 ≤ x ∧ x < 4096)) (fun i => J - (intOf i).toNat)
          case atStart => exact ⟨0, rfl, by omega, Lib.hid (fun j x h => absurd h (Nat.not_lt_zero _))⟩
          case round =>
            obtain ⟨I, rfl, hI2, HA⟩ := hrel
            by_cases hlt : I < J
            · obtain ⟨r, hr⟩ : ∃ r, rows[I]? = some r := ⟨_, List.getElem?_eq_getElem (by rw [HL.out]; exact hlt)⟩
              obtain ⟨b', o', hbo, hc⟩ := HR.out.shape (by rw [HL.out]; omega)
              cases hbo
              have kx := hc I r hr
              have h16 := HLN.out r (List.mem_of_getElem? hr)
              rw [h16] at kx
              obtain ⟨b2, o2, hb2, hc2⟩ := (HR.out.row I r hr).shape (by omega)
              rw [hb2] at kx
              have HRI := Lib.hid hr
              have HC2 := Lib.hid hc2
              have HMM := Lib.hid h16
              clear hc hr h16 hc2 hb2
              have i1 : (0 : Int) ≤ I := by omega
              have i2 : (I : Int) < J := by omega
              go_wp2
              go_loop [56] (fun i => ∃ K : Nat, i = .int .i64 K ∧ K ≤ n ∧ Hid (∀ (j : Nat) y, j < K → r[j]? = some y → 0 ≤ y ∧ y < 4096)) (fun i => n - (intOf i).toNat)
              case atStart => exact ⟨0, rfl, by omega, Lib.hid (fun j x h => absurd h (Nat.not_lt_zero _))⟩
              case round =>
                obtain ⟨K, rfl, hK, HB⟩ := hrel
                by_cases hlt2 : K < n
                · obtain ⟨y, hy⟩ : ∃ y, r[K]? = some y := ⟨_, List.getElem?_eq_getElem (by rw [HMM.out]; exact hlt2)⟩
                  have ky := HC2.out K y hy
                  have HY := Lib.hid hy
                  clear hy
                  have i3 : (0 : Int) ≤ K := by omega
                  have i4 : (K : Int) < n := by omega
                  by_cases y0 : y < 0
                  · have HFF := Lib.hid (HOY.out (outB_yes (List.mem_of_getElem? HRI.out) (List.mem_of_getElem? HY.out) (.inl y0)))
                    go_wp2
                    go_ret
                    exact ⟨by rw [HFF.out]; rfl, rfl⟩
                  · by_cases y1 : 4096 ≤ y
                    · have HFF := Lib.hid (HOY.out (outB_yes (List.mem_of_getElem? HRI.out) (List.mem_of_getElem? HY.out) (.inr (by omega))))
                      go_wp2
                      go_ret
                      exact ⟨by rw [HFF.out]; rfl, rfl⟩
                    · go_wp2
                      go_round
                      case rel =>
                        refine ⟨K + 1, by go_num, by omega, Lib.hid (fun j z hj hz => ?_)⟩
                        by_cases e : j = K
                        · subst e
                          have := HY.out
                          rw [hz] at this
                          rw [Option.some.inj this]; omega
                        · exact HB.out j z (by omega) hz
                      case measure => simp [intOf]; omega
                · go_wp2
                  go_round
                  case rel =>
                    refine ⟨I + 1, by go_num, by omega, Lib.hid (fun j y hj hy => ?_)⟩
                    by_cases e : j = I
                    · subst e
                      have := HRI.out
                      rw [hy] at this
                      rw [Option.some.inj this]
                      intro x hx
                      obtain ⟨i, hi⟩ := List.getElem?_of_mem hx
                      exact HB.out i x (by have := (List.getElem?_eq_some_iff.1 hi).1; have := HMM.out; omega) hi
                    · exact HA.out j y (by omega) hy
                  case measure => simp [intOf]; omega
            · have HFF := Lib.hid (HON.out (outB_of fun r hr x hx => by
                obtain ⟨j, hj⟩ := List.getElem?_of_mem hr
                exact HA.out j r (by have := (List.getElem?_eq_some_iff.1 hj).1; have := HL.out; omega) hj x hx))
              go_wp2
              go_ret
              exact ⟨by rw [HFF.out]; rfl, rfl⟩
end Go.Proofs.Ytabhmhojlhagcaa

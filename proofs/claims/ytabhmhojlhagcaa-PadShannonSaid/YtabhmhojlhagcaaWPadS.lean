/- The walk of PadShannon. -/
import Derived.Test.YtabhmhojlhagcaaPadP
import Derived.Test.YtabhmhojlhagcaaPadR
namespace Go.Proofs.Ytabhmhojlhagcaa
open Go.RowKit
set_option linter.unusedVariables false
set_option linter.unusedSimpArgs false
/-- SHANNON -/
theorem shannon {rows : List (List Int)} {L n : Nat} (hc : Cip rows L n) (hp : perfB rows n = true) (hq : plainB rows = true) : n ≤ L := by
  have hl : 0 < rows.length := by have := hc.len; have := hc.l0; omega
  obtain ⟨r0, hr0⟩ : ∃ r, rows[0]? = some r := ⟨_, List.getElem?_eq_getElem hl⟩
  have hrl0 := hc.row r0 (List.mem_of_getElem? hr0)
  obtain ⟨v, hv⟩ : ∃ v, r0[0]? = some v := ⟨_, List.getElem?_eq_getElem (by have := hc.n0; omega)⟩
  have hv0 : v ∈ colL rows 0 := by
    refine List.mem_map.2 ⟨r0, List.mem_of_getElem? hr0, ?_⟩
    rw [List.getD_eq_getElem?_getD, hv]; rfl
  have hex : ∀ m, m < n → ∃ k, k < L ∧ ∃ r, rows[k]? = some r ∧ r[m]? = some v := fun m hm => by
    have hs := sameC_iff.1 (List.all_eq_true.1 hp m (List.mem_range.2 hm))
    obtain ⟨k, r, h1, h2⟩ := colL_mem hc hm (mem_of_same hs hv0)
    exact ⟨k, by have := (List.getElem?_eq_some_iff.1 h1).1; have := hc.len; omega, r, h1, h2⟩
  have hf : ∃ f : Nat → Nat, ∀ m, m < n → f m < L ∧ ∃ r, rows[f m]? = some r ∧ r[m]? = some v := by
    refine ⟨fun m => if h : m < n then (hex m h).choose else 0, fun m hm => ?_⟩
    simp only [dif_pos hm]
    exact (hex m hm).choose_spec
  obtain ⟨f, hf⟩ := hf
  have := M.length_le_of_inj ((List.range n).map f) (List.range L) (M.nodup_map _ _ List.nodup_range fun x hx y hy e => by
    obtain ⟨_, r, h1, h2⟩ := hf x (List.mem_range.1 hx)
    obtain ⟨_, s, h3, h4⟩ := hf y (List.mem_range.1 hy)
    rw [e, h3] at h1
    cases h1
    have hnd : r.Nodup := by simpa using List.all_eq_true.1 hq r (List.mem_of_getElem? h3)
    exact (List.getElem?_inj (List.getElem?_eq_some_iff.1 h2).1 hnd).1 (h2.trans h4.symm)) fun x hx => by
      obtain ⟨m, hm, rfl⟩ := List.mem_map.1 hx
      exact List.mem_range.2 (hf m (List.mem_range.1 hm)).1
  simpa using this
theorem one_cip : Cip [[0]] 1 1 := ⟨by decide, by decide, by decide, by decide, rfl, by simp, by simp⟩
theorem one_perf : perfB [[0]] 1 = true := by decide
set_option maxHeartbeats 1600000 in
theorem psh_no (a : Option Addr) (len cap : Nat) (R : Nat → Option Addr × Nat) (rows : List (List Int)) (w : World) (hL : rows.length = len) (hl : len ≤ 9223372036854775807) (hr : RowR w a cap R rows) (hrl : ∀ r ∈ rows, r.length ≤ 9223372036854775807) (hf : ¬ cpE rows = 0) :
    Calls Try.prog 9 #[.slice a len cap] w fun e w' => e = .returned (.bool true) ∧ Below w.heap.size w w' := by
  have HR := Lib.hid hr
  have HP := Lib.hid fun w h => pad_Plain_no a cap R rows w len h hL hl hrl hf
  have HQ := Lib.hid fun w h => pad_Perfect_no a cap R rows w len h hL hl hrl hf
  have HC := Lib.hid fun w h => ref_CipherCheck a cap R rows w len h hL hl hrl
  obtain ⟨t, ht⟩ : ∃ t, cpE rows = t := ⟨_, rfl⟩
  rw [ht] at hf HP HC HQ
  have e1 : (t == 0) = false := by simpa using hf
  have e2 : (t != 0) = true := by simpa using hf
  clear ht hf hL hr hrl
  go_enter Try.func9, Try.ntmps9
  go_wp2_with fail
  refine (HQ.out _ HR.out).mono ?_
  rintro e w1 ⟨rfl, hb1⟩
  have HR1 := Lib.hid (HR.out.below hb1 (Nat.le_refl _))
  go_wp2_with fail
  refine (HP.out _ HR1.out).mono ?_
  rintro e w2 ⟨rfl, hb2⟩
  have HR2 := Lib.hid (HR1.out.below hb2 (Nat.le_refl _))
  go_wp2_with fail
  refine (HC.out _ HR2.out).mono ?_
  rintro e w' ⟨rfl, rfl⟩
  go_wp2
  go_ret
  exact ⟨rfl, below_two hb1 hb2⟩
set_option maxHeartbeats 3200000 in
theorem psh_go (a : Option Addr) (len cap n : Nat) (R : Nat → Option Addr × Nat) (rows : List (List Int)) (w : World) (hr : RowR w a cap R rows) (hc : Cip rows len n) :
    Calls Try.prog 9 #[.slice a len cap] w fun e w' => e = .returned (.bool true) ∧ Below w.heap.size w w' := by
  have HR := Lib.hid hr
  have l0 := hc.l0
  have l1 := hc.l1
  have n1 := hc.n1
  have HP := Lib.hid fun w h => pad_Plain a cap R rows w len n h hc
  have HQ := Lib.hid fun w h => pad_Perfect a cap R rows w len n h hc
  have HC := Lib.hid fun w h => ref_CipherCheck a cap R rows w len h hc.len (by omega) (fun r hr => by rw [hc.row r hr]; omega)
  rw [(cpE_of hc).1] at HC
  have HO := Lib.hid fun a c R w h => pad_Perfect a c R [[0]] w 1 1 h one_cip
  rw [one_perf] at HO
  have HSH : Hid (perfB rows n = true → plainB rows = true → n ≤ len) := Lib.hid fun h1 h2 => shannon hc h1 h2
  obtain ⟨T, hT⟩ : ∃ T, plainB rows = T := ⟨_, rfl⟩
  obtain ⟨U, hU⟩ : ∃ T, perfB rows n = T := ⟨_, rfl⟩
  rw [hT] at HP HSH
  rw [hU] at HQ HSH
  have HLN := Lib.hid hc.len
  obtain ⟨r0, hr0⟩ : ∃ r, rows[0]? = some r := ⟨_, List.getElem?_eq_getElem (by rw [hc.len]; omega)⟩
  have HR00 := Lib.hid hr0
  have HRN := Lib.hid (hc.row r0 (List.mem_of_getElem? hr0))
  have nl3 : ¬ len = 0 := by omega
  clear hT hU hc hr hr0
  go_enter Try.func9, Try.ntmps9
  go_wp2_with fail
  refine (HQ.out _ HR.out).mono ?_
  rintro e w1 ⟨rfl, hb1⟩
  have HR1 := Lib.hid (HR.out.below hb1 (Nat.le_refl _))
  go_wp2_with fail
  refine (HP.out _ HR1.out).mono ?_
  rintro e w2 ⟨rfl, hb2⟩
  have HR2 := Lib.hid (HR1.out.below hb2 (Nat.le_refl _))
  go_wp2_with fail
  refine (HC.out _ HR2.out).mono ?_
  rintro e w' ⟨rfl, rfl⟩
  obtain ⟨b, o, hbo, hcell⟩ := HR2.out.shape (by rw [HLN.out]; omega)
  have kx := hcell 0 r0 HR00.out
  rw [HRN.out, Nat.add_zero] at kx
  subst hbo
  clear hcell
  go_wp2_with fail
  refine (HO.out _ _ (fun _ => (some ⟨w2.heap.size, 0, none⟩, 1)) _ ?r1).mono ?_
  case r1 =>
    refine ⟨(fun e => by cases e), (fun ad e i xs hx => ?_), (fun i xs hx => ?_), by simp⟩
    · cases e
      match i, hx with
      | 0, hx => cases hx; simp [go_sem, Addr.add]
      | i + 1, hx => simp at hx
    · match i, hx with
      | 0, hx =>
        cases hx
        refine ⟨(fun e => by cases e), (fun ad e j u hu => ?_), by simp⟩
        cases e
        match j, hu with
        | 0, hu => cases hu; simp [go_sem, Addr.add]
        | j + 1, hu => simp [inV] at hu
      | i + 1, hx => simp at hx
  rintro e w3 ⟨rfl, hb3⟩
  have hbx := below_two (((Below.refl _ _).alloc (Nat.le_refl _) _).alloc (by simp) _) hb3
  have kx3 := kept hbx kx (World.block_lt_of_cell? _ _ kx)
  have hbw := below_two (below_two hb1 hb2) hbx
  clear kx hbx hb1 hb2 hb3
  cases U with
  | false =>
    go_wp2
    go_ret
    exact ⟨rfl, hbw⟩
  | true =>
    cases T with
    | false =>
      go_wp2
      go_ret
      exact ⟨rfl, hbw⟩
    | true =>
      have hle := HSH.out rfl rfl
      go_wp2
      go_ret
      exact ⟨rfl, hbw⟩
theorem WPadShannon (a0 : Option Addr) (len0 cap0 : Nat) (z0 : List (List Int)) (w : World) (w0 : IsMat w a0 len0 cap0 z0) :
    Calls Try.prog 9 #[.slice a0 len0 cap0] w fun e w' => e = .returned (.bool true) ∧ Below w.heap.size w w' := by
  obtain ⟨hL, hl, ⟨R, hr⟩, hrow⟩ := w0
  by_cases hf : cpE z0 = 0
  · have hc := cpE_zero hf
    rw [hL] at hc
    exact psh_go a0 len0 cap0 _ R z0 w hr hc
  · exact psh_no a0 len0 cap0 R z0 w hL hl hr (fun r h => (hrow r h).1) hf
end Go.Proofs.Ytabhmhojlhagcaa

/- Contracts: pad.Check, lockwrightref.CipherCheck. -/
import Derived.Test.YtabhmhojlhagcaaFeW
namespace Go.Proofs.Ytabhmhojlhagcaa
open Go.RowKit
set_option linter.unusedVariables false
set_option linter.unusedSimpArgs false
def tooB (rows : List (List Int)) : Bool := rows.any fun r => decide (16 < r.length)
def n0L (rows : List (List Int)) : Nat := (rows.getD 0 []).length
/-- what is wrong with a cipher -/
def cpE (rows : List (List Int)) : Int := if 16 < rows.length ∨ tooB rows = true then 1 else if rows.length = 0 ∨ n0L rows = 0 then 5 else if longB (n0L rows) rows = true then 4 else if outB 4096 rows = true then 2 else 0
structure CpF (rows : List (List Int)) (L n : Nat) (F : Int) : Prop where
  big : 16 < L → F = 1
  too : tooB rows = true → F = 1
  none : ¬ 16 < L → tooB rows = false → (L = 0 ∨ n = 0) → F = 5
  form : ¬ 16 < L → tooB rows = false → ¬ (L = 0 ∨ n = 0) → longB n rows = true → F = 4
  rng : ¬ 16 < L → tooB rows = false → ¬ (L = 0 ∨ n = 0) → longB n rows = false → outB 4096 rows = true → F = 2
  ok : ¬ 16 < L → tooB rows = false → ¬ (L = 0 ∨ n = 0) → longB n rows = false → outB 4096 rows = false → F = 0
theorem cpF (rows : List (List Int)) : CpF rows rows.length (n0L rows) (cpE rows) where
  big h := if_pos (.inl h)
  too h := if_pos (.inr h)
  none h1 h2 h3 := by unfold cpE; rw [if_neg (fun h => h.elim h1 (by rw [h2]; simp)), if_pos h3]
  form h1 h2 h3 h4 := by unfold cpE; rw [if_neg (fun h => h.elim h1 (by rw [h2]; simp)), if_neg h3, if_pos h4]
  rng h1 h2 h3 h4 h5 := by unfold cpE; rw [if_neg (fun h => h.elim h1 (by rw [h2]; simp)), if_neg h3, if_neg (by rw [h4]; simp), if_pos h5]
  ok h1 h2 h3 h4 h5 := by unfold cpE; rw [if_neg (fun h => h.elim h1 (by rw [h2]; simp)), if_neg h3, if_neg (by rw [h4]; simp), if_neg (by rw [h5]; simp)]
/-- a cipher that may be -/
structure Cip (rows : List (List Int)) (L n : Nat) : Prop where
  l0 : 1 ≤ L
  l1 : L ≤ 16
  n0 : 1 ≤ n
  n1 : n ≤ 16
  len : rows.length = L
  row : ∀ r ∈ rows, r.length = n
  rng : ∀ r ∈ rows, ∀ x ∈ r, 0 ≤ x ∧ x < 4096
theorem tooB_of {rows : List (List Int)} (h : ∀ r ∈ rows, r.length ≤ 16) : tooB rows = false := List.any_eq_false.2 fun r hr => by simpa using h r hr
theorem tooB_yes {rows : List (List Int)} {r : List Int} (h : r ∈ rows) (hn : 16 < r.length) : tooB rows = true := List.any_eq_true.2 ⟨r, h, by simpa using hn⟩
theorem tooB_no {rows : List (List Int)} (h : tooB rows = false) : ∀ r ∈ rows, r.length ≤ 16 := fun r hr => by
  have := List.any_eq_false.1 h r hr
  simpa using this
theorem n0L_at {rows : List (List Int)} {r : List Int} (h : rows[0]? = some r) : n0L rows = r.length := by unfold n0L; rw [List.getD_eq_getElem?_getD, h]; rfl
theorem cpE_zero {rows : List (List Int)} (h : cpE rows = 0) : Cip rows rows.length (n0L rows) := by
  have hf := cpF rows
  rw [h] at hf
  have h1 : ¬ 16 < rows.length := fun g => by have := hf.big g; omega
  have h2 : tooB rows = false := by
    cases e : tooB rows with
    | false => rfl
    | true => have := hf.too e; omega
  have h3 : ¬ (rows.length = 0 ∨ n0L rows = 0) := fun g => by have := hf.none h1 h2 g; omega
  have h4 : longB (n0L rows) rows = false := by
    cases e : longB (n0L rows) rows with
    | false => rfl
    | true => have := hf.form h1 h2 h3 e; omega
  have h5 : outB 4096 rows = false := by
    cases e : outB 4096 rows with
    | false => rfl
    | true => have := hf.rng h1 h2 h3 h4 e; omega
  have hl : 0 < rows.length := by omega
  have hn := tooB_no h2 rows[0] (List.getElem_mem hl)
  rw [← n0L_at (List.getElem?_eq_getElem hl)] at hn
  exact ⟨by omega, by omega, by omega, hn, rfl, longB_no h4, outB_no h5⟩
theorem cpE_of {rows : List (List Int)} {L n : Nat} (h : Cip rows L n) : cpE rows = 0 ∧ n0L rows = n := by
  have hl : 0 < rows.length := by have := h.len; have := h.l0; omega
  have hn : n0L rows = n := by rw [n0L_at (List.getElem?_eq_getElem hl)]; exact h.row _ (List.getElem_mem hl)
  refine ⟨(cpF rows).ok (by have := h.len; have := h.l1; omega) (tooB_of fun r hr => by rw [h.row r hr]; exact h.n1) (by have := h.n0; omega) (by rw [hn]; exact longB_of h.row) (outB_of h.rng), hn⟩
theorem pad_c1 (a : Option Addr) (xs : List Int) (c : Nat) (w : World) (hl : xs.length ≤ 9223372036854775807) :
    Calls Try.prog 50 (#[.slice a xs.length c] ++ #[]) w fun e w' => e = .returned (.bool (decide (16 < xs.length))) ∧ Below w.heap.size w w' := by
  show Calls Try.prog 50 #[.slice a xs.length c] w _
  obtain ⟨L, hL⟩ : ∃ L, xs.length = L := ⟨_, rfl⟩
  rw [hL] at hl ⊢
  clear hL
  by_cases h : 16 < L
  · have HE := Lib.hid (show decide (16 < L) = true by simpa using h)
    go_enter Try.func50, Try.ntmps50
    go_wp2
    go_ret
    exact ⟨by rw [HE.out]; first | rfl | simp; omega, Below.refl _ _⟩
  · have HE := Lib.hid (show decide (16 < L) = false by simpa using h)
    go_enter Try.func50, Try.ntmps50
    go_wp2
    go_ret
    exact ⟨by rw [HE.out]; first | rfl | (simp; omega), Below.refl _ _⟩
theorem pad_c2 (a a' : Option Addr) (c c' L n b : Nat) (R : Nat → Option Addr × Nat) (rows : List (List Int)) (xs r0 : List Int) (w : World) (hl : xs.length ≤ 9223372036854775807) (hb : w.cell? ⟨b, 0, none⟩ = some (.slice a L c)) (hr : RowR w a c R rows)
    (hL : rows.length = L) (l0 : 0 < L) (hL2 : L ≤ 16) (h0 : rows[0]? = some r0) (hn : r0.length = n) (hn2 : n ≤ 16) :
    Calls Try.prog 51 (#[.slice a' xs.length c'] ++ #[.pointer (some ⟨b, 0, none⟩)]) w fun e w' => e = .returned (.bool (!(decide (xs.length = n)))) ∧ Below w.heap.size w w' := by
  show Calls Try.prog 51 #[.slice a' xs.length c', .pointer (some ⟨b, 0, none⟩)] w _
  obtain ⟨M, hM⟩ : ∃ L, xs.length = L := ⟨_, rfl⟩
  rw [hM] at hl ⊢
  obtain ⟨b1, o1, rfl, hc⟩ := hr.shape (by omega)
  have k0 := hc 0 r0 h0
  rw [hn, Nat.add_zero] at k0
  clear hM hc h0 hn hr hL
  have nl3 : ¬ L = 0 := by omega
  by_cases h : M = n
  · subst h
    go_enter Try.func51, Try.ntmps51
    go_wp2
    go_ret
    exact ⟨by simp, Below.refl _ _⟩
  · have HE := Lib.hid (show (!(decide (M = n))) = true by simpa using h)
    have e1 : (M == n) = false := by simpa using h
    have e2 : ((M : Int) == n) = false := by simp; omega
    have e3 : ((M : Int) != n) = true := by simp; omega
    clear h
    go_enter Try.func51, Try.ntmps51
    go_wp2
    go_ret
    exact ⟨by rw [HE.out]; first | rfl | simp, Below.refl _ _⟩
set_option maxHeartbeats 3200000 in
theorem pad_Check (a : Option Addr) (c : Nat) (R : Nat → Option Addr × Nat) (rows : List (List Int)) (w : World) (L : Nat) (h : RowR w a c R rows) (hL : rows.length = L) (hl : L ≤ 9223372036854775807) (hrl : ∀ r ∈ rows, r.length ≤ 9223372036854775807) :
    Calls Try.prog 36 #[.slice a L c] w fun e w' => e = .returned (.int .i64 (cpE rows)) ∧ Below w.heap.size w w' := by
  have HR := Lib.hid h
  have HL := Lib.hid hL
  have HF := cpF rows
  rw [hL] at HF
  obtain ⟨n, hn⟩ : ∃ n, n0L rows = n := ⟨_, rfl⟩
  obtain ⟨F, hF⟩ : ∃ F, cpE rows = F := ⟨_, rfl⟩
  rw [hn, hF] at HF
  rw [hF]
  have HN := Lib.hid hn
  have HK1 : Hid (∀ w, RowR w a c R rows → Calls Try.prog 42 #[.slice a L c, .func (.func 50) #[] #[]] w fun e w' => e = .returned (.bool (tooB rows)) ∧ Below w.heap.size w w') :=
    Lib.hid fun w h => contains_rows 50 #[] (fun args w => by kernel_rfl) (fun r => decide (16 < r.length)) a c R rows w L h hL hl (fun W a c xs _ hx _ => pad_c1 a xs c W (hrl xs hx))
  have HRL := Lib.hid hrl
  clear hF hn h hL hrl
  by_cases h1 : 16 < L
  · obtain rfl := HF.big h1
    clear HF
    go_enter Try.func36, Try.ntmps36
    go_wp2
    go_ret
    exact ⟨rfl, (Below.refl _ _).alloc (Nat.le_refl _) _⟩
  have HR0 := Lib.hid (HR.out.below (W' := w.alloc (.cells #[.slice a L c] 33)) ((Below.refl w.heap.size w).alloc (Nat.le_refl _) _) (Nat.le_refl _))
  cases ht : tooB rows with
  | true =>
    obtain rfl := HF.too ht
    rw [ht] at HK1
    clear HF ht
    go_enter Try.func36, Try.ntmps36
    go_wp2_with fail
    refine (HK1.out _ HR0.out).mono ?_
    rintro e w1 ⟨rfl, hb1⟩
    go_wp2
    go_ret
    exact ⟨rfl, below_two ((Below.refl _ _).alloc (Nat.le_refl _) _) hb1⟩
  | false =>
    rw [ht] at HK1
    have HT := Lib.hid ht
    clear ht
    by_cases h0 : L = 0
    · obtain rfl := HF.none h1 HT.out (.inl h0)
      subst h0
      clear HF
      go_enter Try.func36, Try.ntmps36
      go_wp2_with fail
      refine (HK1.out _ HR0.out).mono ?_
      rintro e w1 ⟨rfl, hb1⟩
      have z1 := hb1.size
      simp at z1
      have k0 := kept hb1 (b := w.heap.size) (o := 0) (v := .slice a 0 c) (by simp [go_sem]) (by simp [go_sem] <;> omega)
      go_wp2
      go_ret
      exact ⟨rfl, below_two ((Below.refl _ _).alloc (Nat.le_refl _) _) hb1⟩
    obtain ⟨r0, hr0⟩ : ∃ r, rows[0]? = some r := ⟨_, List.getElem?_eq_getElem (by rw [HL.out]; omega)⟩
    have hrn := n0L_at hr0
    rw [HN.out] at hrn
    have hn2 : n ≤ 16 := by rw [hrn]; exact tooB_no HT.out r0 (List.mem_of_getElem? hr0)
    have HR00 := Lib.hid hr0
    have HRN := Lib.hid hrn
    obtain ⟨b, o, rfl, hc⟩ := HR.out.shape (by rw [HL.out]; omega)
    have kz := hc 0 r0 hr0
    rw [← hrn, Nat.add_zero] at kz
    have lz := World.block_lt_of_cell? _ _ kz
    have nl3 : ¬ L = 0 := h0
    have nl4 : (L == 0) = false := by simpa using h0
    have nl5 : ((L : Int) == 0) = false := by simp; omega
    have nl6 : 0 < L := by omega
    clear hc hr0 hrn
    by_cases hz : n = 0
    · obtain rfl := HF.none h1 HT.out (.inr hz)
      subst hz
      clear HF
      go_enter Try.func36, Try.ntmps36
      go_wp2_with fail
      refine (HK1.out _ HR0.out).mono ?_
      rintro e w1 ⟨rfl, hb1⟩
      have z1 := hb1.size
      simp at z1
      have k0 := kept hb1 (b := w.heap.size) (o := 0) (v := .slice (some ⟨b, o, none⟩) L c) (by simp [go_sem]) (by simp [go_sem] <;> omega)
      have kz1 := kept (below_two ((Below.refl _ _).alloc (Nat.le_refl _) _) hb1) kz lz
      go_wp2
      go_ret
      exact ⟨rfl, below_two ((Below.refl _ _).alloc (Nat.le_refl _) _) hb1⟩
    have nz4 : (n == 0) = false := by simpa using hz
    have nz5 : ((n : Int) == 0) = false := by simp; omega
    have HK2 : Hid (∀ w bb, RowR w (some ⟨b, o, none⟩) c R rows → w.cell? ⟨bb, 0, none⟩ = some (.slice (some ⟨b, o, none⟩) L c) → Calls Try.prog 42 #[.slice (some ⟨b, o, none⟩) L c, .func (.func 51) #[] #[.pointer (some ⟨bb, 0, none⟩)]] w fun e w' => e = .returned (.bool (longB n rows)) ∧ Below w.heap.size w w') :=
      Lib.hid fun w bb h hbb => contains_rows 51 #[.pointer (some ⟨bb, 0, none⟩)] (fun args w => by kernel_rfl) (fun r => !(decide (r.length = n))) _ c R rows w L h HL.out hl (fun W a c' xs hb hx _ =>
        pad_c2 _ a c c' L n bb R rows xs r0 W (HRL.out xs hx) (kept hb hbb (World.block_lt_of_cell? _ _ hbb)) (h.below hb (Nat.le_refl _)) HL.out nl6 (by omega) HR00.out HRN.out.symm hn2)
    cases hlo : longB n rows with
    | true =>
      obtain rfl := HF.form h1 HT.out (by omega) hlo
      rw [hlo] at HK2
      clear HF hlo
      go_enter Try.func36, Try.ntmps36
      go_wp2_with fail
      refine (HK1.out _ HR0.out).mono ?_
      rintro e w1 ⟨rfl, hb1⟩
      have z1 := hb1.size
      simp at z1
      have k0 := kept hb1 (b := w.heap.size) (o := 0) (v := .slice (some ⟨b, o, none⟩) L c) (by simp [go_sem]) (by simp [go_sem] <;> omega)
      have kz1 := kept (below_two ((Below.refl _ _).alloc (Nat.le_refl _) _) hb1) kz lz
      have HR1 := Lib.hid (HR0.out.below hb1 (Nat.le_refl _))
      have K0 := Lib.hid k0
      go_wp2_with fail
      refine (HK2.out _ _ HR1.out K0.out).mono ?_
      rintro e w2 ⟨rfl, hb2⟩
      go_wp2
      go_ret
      exact ⟨rfl, below_two (below_two ((Below.refl _ _).alloc (Nat.le_refl _) _) hb1) hb2⟩
    | false =>
      rw [hlo] at HK2
      have HLN := Lib.hid (longB_no hlo)
      have HOY : Hid (outB 4096 rows = true → F = 2) := Lib.hid fun h => HF.rng h1 HT.out (by omega) hlo h
      have HON : Hid (outB 4096 rows = false → F = 0) := Lib.hid fun h => HF.ok h1 HT.out (by omega) hlo h
      clear HF hlo
      go_enter Try.func36, Try.ntmps36
      go_wp2_with fail
      refine (HK1.out _ HR0.out).mono ?_
      rintro e w1 ⟨rfl, hb1⟩
      have z1 := hb1.size
      simp at z1
      have k0 := kept hb1 (b := w.heap.size) (o := 0) (v := .slice (some ⟨b, o, none⟩) L c) (by simp [go_sem]) (by simp [go_sem] <;> omega)
      have kz1 := kept (below_two ((Below.refl _ _).alloc (Nat.le_refl _) _) hb1) kz lz
      have HR1 := Lib.hid (HR0.out.below hb1 (Nat.le_refl _))
      have K0 := Lib.hid k0
      go_wp2_with fail
      refine (HK2.out _ _ HR1.out K0.out).mono ?_
      rintro e w2 ⟨rfl, hb2⟩
      have HR2 := Lib.hid (HR1.out.below hb2 (Nat.le_refl _))
      have k2 := kept hb2 K0.out (by omega)
      have hbw := below_two (below_two ((Below.refl _ _).alloc (Nat.le_refl _) _) hb1) hb2
      clear k0 kz1 kz hb1 hb2
      go_wp2
      go_loopw [27] (fun i wr => ∃ I : Nat, i = .int .i64 I ∧ I ≤ L ∧ Hid (∀ (j : Nat) r, j < I → rows[j]? = some r → ∀ x ∈ r, 0 ≤ x ∧ x < 4096) ∧ w2 = wr) (fun i _ => L - (intOf i).toNat)
      case atStart => exact ⟨0, rfl, by omega, Lib.hid (fun j x h => absurd h (Nat.not_lt_zero _)), rfl⟩
      case round =>
        obtain ⟨I, rfl, hI, HA, rfl⟩ := hrel
        by_cases hlt : I < L
        · obtain ⟨r, hr⟩ : ∃ r, rows[I]? = some r := ⟨_, List.getElem?_eq_getElem (by rw [HL.out]; exact hlt)⟩
          have hrm := List.mem_of_getElem? hr
          have h16 := HLN.out r hrm
          obtain ⟨b', o', hbo, hc⟩ := HR2.out.shape (by rw [HL.out]; omega)
          cases hbo
          have kx := hc I r hr
          rw [h16] at kx
          have HMI := Lib.hid fun w h => slices_Min (R I).1 (R I).2 r w n h h16 (by omega) (by omega)
          have HMA := Lib.hid fun w h => slices_Max (R I).1 (R I).2 r w n h h16 (by omega) (by omega)
          have HRW := Lib.hid (HR2.out.row I r hr)
          have HRI := Lib.hid hr
          have HRM := Lib.hid hrm
          clear hc hr hrm h16
          have i1 : (0 : Int) ≤ I := by omega
          have i2 : (I : Int) < L := by omega
          go_wp2_with fail
          refine (HMI.out _ HRW.out).mono ?_
          rintro e w' ⟨⟨m, hm, rfl⟩, rfl⟩
          have HMM := Lib.hid hm
          clear hm
          by_cases hm0 : m < 0
          · have HFF := Lib.hid (HOY.out (outB_yes HRM.out HMM.out.1 (.inl hm0)))
            go_wp2
            go_ret
            exact ⟨by rw [HFF.out]; rfl, hbw⟩
          · go_wp2_with fail
            refine (HMA.out _ HRW.out).mono ?_
            rintro e w' ⟨⟨M, hM, rfl⟩, rfl⟩
            have HMX := Lib.hid hM
            clear hM
            by_cases hM0 : 4096 ≤ M
            · have HFF := Lib.hid (HOY.out (outB_yes HRM.out HMX.out.1 (.inr hM0)))
              go_wp2
              go_ret
              exact ⟨by rw [HFF.out]; rfl, hbw⟩
            · go_wp2
              go_round
              case rel =>
                refine ⟨I + 1, by go_num, by omega, Lib.hid (fun j y hj hy => ?_), trivial⟩
                by_cases e : j = I
                · subst e
                  have := HRI.out
                  rw [hy] at this
                  rw [Option.some.inj this]
                  intro x hx
                  have := HMM.out.2 x hx
                  have := HMX.out.2 x hx
                  omega
                · exact HA.out j y (by omega) hy
              case measure => simp [intOf]; omega
        · have HFF := Lib.hid (HON.out (outB_of fun r hr x hx => by
            obtain ⟨j, hj⟩ := List.getElem?_of_mem hr
            exact HA.out j r (by have := (List.getElem?_eq_some_iff.1 hj).1; have := HL.out; omega) hj x hx))
          go_wp2
          go_ret
          exact ⟨by rw [HFF.out]; rfl, hbw⟩
end Go.Proofs.Ytabhmhojlhagcaa

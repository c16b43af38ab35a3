/- Contracts: slices.Min, Max over ints; feistel.wrong; lockwrightref.RoundsCheck. -/
import Derived.Test.YtabhmhojlhagcaaRowR
namespace Go.Proofs.Ytabhmhojlhagcaa
open Go.RowKit
set_option linter.unusedVariables false
set_option linter.unusedSimpArgs false
def IsMin (m : Int) (xs : List Int) : Prop := m ∈ xs ∧ ∀ x ∈ xs, m ≤ x
def IsMax (m : Int) (xs : List Int) : Prop := m ∈ xs ∧ ∀ x ∈ xs, x ≤ m
theorem take_one {xs : List Int} {x : Int} (h : xs[0]? = some x) : xs.take 1 = [x] := by
  cases xs with
  | nil => simp at h
  | cons y t => simp at h; subst h; simp
theorem take_next {xs : List Int} {k : Nat} {x : Int} (h : xs[k]? = some x) : xs.take (k + 1) = xs.take k ++ [x] := by
  rw [List.take_add_one, h]; rfl
theorem IsMin.low {m x : Int} {l : List Int} (h : IsMin m l) (hx : m ≤ x) : IsMin m (l ++ [x]) := ⟨by simp [h.1], fun y hy => by
  rcases List.mem_append.1 hy with h1 | h1
  · exact h.2 y h1
  · simp at h1; omega⟩
theorem IsMin.new {m x : Int} {l : List Int} (h : IsMin m l) (hx : x ≤ m) : IsMin x (l ++ [x]) := ⟨by simp, fun y hy => by
  rcases List.mem_append.1 hy with h1 | h1
  · have := h.2 y h1; omega
  · simp at h1; omega⟩
theorem IsMax.high {m x : Int} {l : List Int} (h : IsMax m l) (hx : x ≤ m) : IsMax m (l ++ [x]) := ⟨by simp [h.1], fun y hy => by
  rcases List.mem_append.1 hy with h1 | h1
  · exact h.2 y h1
  · simp at h1; omega⟩
theorem IsMax.new {m x : Int} {l : List Int} (h : IsMax m l) (hx : m ≤ x) : IsMax x (l ++ [x]) := ⟨by simp, fun y hy => by
  rcases List.mem_append.1 hy with h1 | h1
  · have := h.2 y h1; omega
  · simp at h1; omega⟩
set_option maxHeartbeats 1600000 in
theorem slices_Min (a : Option Addr) (c : Nat) (xs : List Int) (w : World) (L : Nat) (h : RowL w a c xs) (hL : xs.length = L) (h0 : 0 < L) (hl : L ≤ 9223372036854775807) :
    Calls Try.prog 44 #[.slice a L c] w fun e w' => (∃ m, IsMin m xs ∧ e = .returned (.int .i64 m)) ∧ w = w' := by
  obtain ⟨b, o, rfl, hc⟩ := h.shape (by omega)
  obtain ⟨x0, hx0⟩ : ∃ x, xs[0]? = some x := ⟨_, List.getElem?_eq_getElem (by omega)⟩
  have k0 := hc 0 x0 hx0
  rw [Nat.add_zero] at k0
  have HC := Lib.hid hc
  have HL := Lib.hid hL
  have HX0 := Lib.hid hx0
  have nl2 : decide ((L : Int) < 1) = false := by simp; omega
  have nl3 : ¬ L = 0 := by omega
  clear hc h hL hx0
  go_enter Try.func44, Try.ntmps44
  go_wp2
  go_loop [3, 4] (fun mv i => ∃ (I : Nat) (m : Int), i = .int .i64 I ∧ mv = .int .i64 m ∧ 1 ≤ I ∧ I ≤ L ∧ IsMin m (xs.take I)) (fun _ i => L - (intOf i).toNat)
  case atStart => exact ⟨1, x0, rfl, rfl, Nat.le_refl _, h0, by rw [take_one HX0.out]; exact ⟨by simp, fun y hy => by simp at hy; omega⟩⟩
  case round =>
    obtain ⟨I, m, rfl, rfl, h1, hI, hm⟩ := hrel
    have HM := Lib.hid hm
    clear hm
    by_cases hlt : I < L
    · obtain ⟨x, hx⟩ : ∃ x, xs[I]? = some x := ⟨_, List.getElem?_eq_getElem (by rw [HL.out]; exact hlt)⟩
      have kx := HC.out I x hx
      have HX := Lib.hid hx
      clear hx
      have i1 : (0 : Int) ≤ I := by omega
      have i2 : (I : Int) < L := by omega
      rcases Int.lt_trichotomy m x with hc | hc | hc
      · go_wp2
        go_round
        case rel => exact ⟨I + 1, m, by go_num, rfl, by omega, by omega, by rw [take_next HX.out]; exact HM.out.low (by omega)⟩
        case measure => simp [intOf]; omega
      · subst hc
        go_wp2
        go_round
        case rel => exact ⟨I + 1, m, by go_num, rfl, by omega, by omega, by rw [take_next HX.out]; exact HM.out.low (by omega)⟩
        case measure => simp [intOf]; omega
      · go_wp2
        go_round
        case rel => exact ⟨I + 1, x, by go_num, rfl, by omega, by omega, by rw [take_next HX.out]; exact HM.out.new (by omega)⟩
        case measure => simp [intOf]; omega
    · obtain rfl : I = L := by omega
      go_wp2
      go_ret
      exact ⟨⟨m, by have := HM.out; rwa [List.take_of_length_le (by rw [HL.out]; exact Nat.le_refl _)] at this, rfl⟩, rfl⟩
set_option maxHeartbeats 1600000 in
theorem slices_Max (a : Option Addr) (c : Nat) (xs : List Int) (w : World) (L : Nat) (h : RowL w a c xs) (hL : xs.length = L) (h0 : 0 < L) (hl : L ≤ 9223372036854775807) :
    Calls Try.prog 45 #[.slice a L c] w fun e w' => (∃ m, IsMax m xs ∧ e = .returned (.int .i64 m)) ∧ w = w' := by
  obtain ⟨b, o, rfl, hc⟩ := h.shape (by omega)
  obtain ⟨x0, hx0⟩ : ∃ x, xs[0]? = some x := ⟨_, List.getElem?_eq_getElem (by omega)⟩
  have k0 := hc 0 x0 hx0
  rw [Nat.add_zero] at k0
  have HC := Lib.hid hc
  have HL := Lib.hid hL
  have HX0 := Lib.hid hx0
  have nl2 : decide ((L : Int) < 1) = false := by simp; omega
  have nl3 : ¬ L = 0 := by omega
  clear hc h hL hx0
  go_enter Try.func45, Try.ntmps45
  go_wp2
  go_loop [3, 4] (fun mv i => ∃ (I : Nat) (m : Int), i = .int .i64 I ∧ mv = .int .i64 m ∧ 1 ≤ I ∧ I ≤ L ∧ IsMax m (xs.take I)) (fun _ i => L - (intOf i).toNat)
  case atStart => exact ⟨1, x0, rfl, rfl, Nat.le_refl _, h0, by rw [take_one HX0.out]; exact ⟨by simp, fun y hy => by simp at hy; omega⟩⟩
  case round =>
    obtain ⟨I, m, rfl, rfl, h1, hI, hm⟩ := hrel
    have HM := Lib.hid hm
    clear hm
    by_cases hlt : I < L
    · obtain ⟨x, hx⟩ : ∃ x, xs[I]? = some x := ⟨_, List.getElem?_eq_getElem (by rw [HL.out]; exact hlt)⟩
      have kx := HC.out I x hx
      have HX := Lib.hid hx
      clear hx
      have i1 : (0 : Int) ≤ I := by omega
      have i2 : (I : Int) < L := by omega
      rcases Int.lt_trichotomy m x with hc | hc | hc
      · go_wp2
        go_round
        case rel => exact ⟨I + 1, x, by go_num, rfl, by omega, by omega, by rw [take_next HX.out]; exact HM.out.new (by omega)⟩
        case measure => simp [intOf]; omega
      · subst hc
        go_wp2
        go_round
        case rel => exact ⟨I + 1, m, by go_num, rfl, by omega, by omega, by rw [take_next HX.out]; exact HM.out.high (by omega)⟩
        case measure => simp [intOf]; omega
      · go_wp2
        go_round
        case rel => exact ⟨I + 1, m, by go_num, rfl, by omega, by omega, by rw [take_next HX.out]; exact HM.out.high (by omega)⟩
        case measure => simp [intOf]; omega
    · obtain rfl : I = L := by omega
      go_wp2
      go_ret
      exact ⟨⟨m, by have := HM.out; rwa [List.take_of_length_le (by rw [HL.out]; exact Nat.le_refl _)] at this, rfl⟩, rfl⟩
def longB (n : Nat) (rows : List (List Int)) : Bool := rows.any fun r => !(decide (r.length = n))
def outB (hi : Int) (rows : List (List Int)) : Bool := rows.any fun r => r.any fun x => decide (x < 0) || decide (hi ≤ x)
theorem longB_no {n : Nat} {rows : List (List Int)} (h : longB n rows = false) : ∀ r ∈ rows, r.length = n := fun r hr => by
  have := List.any_eq_false.1 h r hr
  simpa using this
theorem longB_yes {n : Nat} {rows : List (List Int)} {r : List Int} (h : r ∈ rows) (hn : r.length ≠ n) : longB n rows = true := List.any_eq_true.2 ⟨r, h, by simpa using hn⟩
theorem longB_of {n : Nat} {rows : List (List Int)} (h : ∀ r ∈ rows, r.length = n) : longB n rows = false := List.any_eq_false.2 fun r hr => by simpa using h r hr
theorem outB_yes {hi : Int} {rows : List (List Int)} {r : List Int} {x : Int} (h : r ∈ rows) (hx : x ∈ r) (hb : x < 0 ∨ hi ≤ x) : outB hi rows = true :=
  List.any_eq_true.2 ⟨r, h, List.any_eq_true.2 ⟨x, hx, by simpa using hb⟩⟩
theorem outB_of {hi : Int} {rows : List (List Int)} (h : ∀ r ∈ rows, ∀ x ∈ r, 0 ≤ x ∧ x < hi) : outB hi rows = false :=
  List.any_eq_false.2 fun r hr => by
    simp only [List.any_eq_true, not_exists]
    rintro x ⟨hx, hb⟩
    have := h r hr x hx
    simp at hb; omega
theorem outB_no {hi : Int} {rows : List (List Int)} (h : outB hi rows = false) : ∀ r ∈ rows, ∀ x ∈ r, 0 ≤ x ∧ x < hi := fun r hr x hx => by
  refine Decidable.byContradiction fun hc => ?_
  rw [outB_yes hr hx (by omega)] at h; cases h
/-- what is wrong with rounds and a number -/
def fsE (rows : List (List Int)) (x : Int) : Int := if 64 < rows.length then 1 else if longB 16 rows = true then 4 else if outB 16 rows = true then 2 else if x < 0 ∨ 256 ≤ x then 2 else 0
structure Rnd (rows : List (List Int)) : Prop where
  len : rows.length ≤ 64
  row : ∀ r ∈ rows, r.length = 16
  rng : ∀ r ∈ rows, ∀ x ∈ r, 0 ≤ x ∧ x < 16
theorem fsE_zero {rows : List (List Int)} {x : Int} : fsE rows x = 0 ↔ Rnd rows ∧ 0 ≤ x ∧ x < 256 := by
  unfold fsE
  by_cases h1 : 64 < rows.length
  · rw [if_pos h1]; exact ⟨fun h => by omega, fun h => by have := h.1.len; omega⟩
  rw [if_neg h1]
  by_cases h2 : longB 16 rows = true
  · rw [if_pos h2]; exact ⟨fun h => by omega, fun h => by rw [longB_of h.1.row] at h2; cases h2⟩
  rw [if_neg h2]
  by_cases h3 : outB 16 rows = true
  · rw [if_pos h3]; exact ⟨fun h => by omega, fun h => by rw [outB_of h.1.rng] at h3; cases h3⟩
  rw [if_neg h3]
  simp only [Bool.not_eq_true] at h2 h3
  by_cases h4 : x < 0 ∨ 256 ≤ x
  · rw [if_pos h4]; exact ⟨fun h => by omega, fun h => by omega⟩
  · rw [if_neg h4]; exact ⟨fun _ => ⟨⟨by omega, longB_no h2, outB_no h3⟩, by omega⟩, fun _ => rfl⟩
theorem wrong_c (a : Option Addr) (xs : List Int) (c : Nat) (w : World) (hl : xs.length ≤ 9223372036854775807) :
    Calls Try.prog 43 (#[.slice a xs.length c] ++ #[]) w fun e w' => e = .returned (.bool (!(decide (xs.length = 16)))) ∧ Below w.heap.size w w' := by
  show Calls Try.prog 43 #[.slice a xs.length c] w _
  obtain ⟨L, hL⟩ : ∃ L, xs.length = L := ⟨_, rfl⟩
  rw [hL] at hl ⊢
  clear hL
  by_cases h : L = 16
  · subst h
    go_enter Try.func43, Try.ntmps43
    go_wp2
    go_ret
    exact ⟨rfl, Below.refl _ _⟩
  · have e1 : (L == 16) = false := by simpa using h
    have e2 : ((L : Int) == 16) = false := by simp; omega
    have e3 : ((L : Int) != 16) = true := by simp; omega
    have e4 : decide (L = 16) = false := by simpa using h
    have HE := Lib.hid e4
    clear h e4
    go_enter Try.func43, Try.ntmps43
    go_wp2
    go_ret
    exact ⟨by rw [HE.out]; rfl, Below.refl _ _⟩
set_option maxHeartbeats 1600000 in
theorem feistel_wrong (a : Option Addr) (c : Nat) (R : Nat → Option Addr × Nat) (rows : List (List Int)) (x : Int) (w : World) (L : Nat) (h : RowR w a c R rows) (hL : rows.length = L) (hl : L ≤ 9223372036854775807) (hrl : ∀ r ∈ rows, r.length ≤ 9223372036854775807) :
    Calls Try.prog 31 #[.slice a L c, .int .i64 x] w fun e w' => e = .returned (.int .i64 (fsE rows x)) ∧ Below w.heap.size w w' := by
  have HR := Lib.hid h
  have HL := Lib.hid hL
  by_cases h1 : 64 < L
  · have HF : Hid (fsE rows x = 1) := Lib.hid (by unfold fsE; rw [if_pos (by omega)])
    clear hL h hrl
    go_enter Try.func31, Try.ntmps31
    go_wp2
    go_ret
    exact ⟨by rw [HF.out]; rfl, Below.refl _ _⟩
  have hF1 : fsE rows x = if longB 16 rows = true then 4 else if outB 16 rows = true then 2 else if x < 0 ∨ 256 ≤ x then 2 else 0 := by unfold fsE; rw [if_neg (by omega)]
  have HK := Lib.hid fun w (h : RowR w a c R rows) => contains_rows 43 #[] (fun args w => by kernel_rfl) (fun r => !(decide (r.length = 16))) a c R rows w L h hL hl (fun W a c xs _ hx _ => wrong_c a xs c W (hrl xs hx))
  have HK' : Hid (∀ w, RowR w a c R rows → Calls Try.prog 42 #[.slice a L c, .func (.func 43) #[] #[]] w fun e w' => e = .returned (.bool (longB 16 rows)) ∧ Below w.heap.size w w') := HK
  clear HK
  cases hlo : longB 16 rows with
  | true =>
    have HF : Hid (fsE rows x = 4) := Lib.hid (by rw [hF1, if_pos hlo])
    rw [hlo] at HK'
    clear hF1 hlo hL h hrl
    go_enter Try.func31, Try.ntmps31
    go_wp2_with fail
    refine (HK'.out _ HR.out).mono ?_
    rintro e w1 ⟨rfl, hb1⟩
    go_wp2
    go_ret
    exact ⟨by rw [HF.out]; rfl, hb1⟩
  | false =>
    rw [if_neg (by rw [hlo]; simp)] at hF1
    have H16 := Lib.hid (longB_no hlo)
    rw [hlo] at HK'
    have HOY : Hid (outB 16 rows = true → fsE rows x = 2) := Lib.hid fun h => by rw [hF1, if_pos h]
    have HON : Hid (outB 16 rows = false → fsE rows x = if x < 0 ∨ 256 ≤ x then 2 else 0) := Lib.hid fun h => by rw [hF1, if_neg (by rw [h]; simp)]
    obtain ⟨F, hF⟩ : ∃ F, fsE rows x = F := ⟨_, rfl⟩
    rw [hF] at HOY HON ⊢
    clear hF hF1 hlo hL h hrl
    go_enter Try.func31, Try.ntmps31
    go_wp2_with fail
    refine (HK'.out _ HR.out).mono ?_
    rintro e w1 ⟨rfl, hb1⟩
    have HR1 := Lib.hid (HR.out.below hb1 (Nat.le_refl _))
    go_wp2
    go_loopw [14] (fun i wr => ∃ I : Nat, i = .int .i64 I ∧ I ≤ L ∧ Hid (∀ (j : Nat) r, j < I → rows[j]? = some r → ∀ x ∈ r, 0 ≤ x ∧ x < 16) ∧ w1 = wr) (fun i _ => L - (intOf i).toNat)
    case atStart => exact ⟨0, rfl, by omega, Lib.hid (fun j x h => absurd h (Nat.not_lt_zero _)), rfl⟩
    case round =>
      obtain ⟨I, rfl, hI, HA, rfl⟩ := hrel
      by_cases hlt : I < L
      · obtain ⟨r, hr⟩ : ∃ r, rows[I]? = some r := ⟨_, List.getElem?_eq_getElem (by rw [HL.out]; exact hlt)⟩
        have hrm := List.mem_of_getElem? hr
        have h16 := H16.out r hrm
        obtain ⟨b, o, rfl, hc⟩ := HR1.out.shape (by rw [HL.out]; omega)
        have kx := hc I r hr
        rw [h16] at kx
        have HMI := Lib.hid fun w h => slices_Min (R I).1 (R I).2 r w 16 h h16 (by omega) (by omega)
        have HMA := Lib.hid fun w h => slices_Max (R I).1 (R I).2 r w 16 h h16 (by omega) (by omega)
        have HRW := Lib.hid (HR1.out.row I r hr)
        have HRI := Lib.hid hr
        have HRM := Lib.hid hrm
        clear hc hr hrm h16
        have i1 : (0 : Int) ≤ I := by omega
        have i2 : (I : Int) < L := by omega
        go_wp2_with fail
        refine (HMI.out _ HRW.out).mono ?_
        rintro e w' ⟨⟨m, hm, rfl⟩, rfl⟩
        have HMM := Lib.hid hm
        clear hm
        by_cases hm0 : m < 0
        · have HF := Lib.hid (HOY.out (outB_yes HRM.out HMM.out.1 (.inl hm0)))
          go_wp2
          go_ret
          exact ⟨by rw [HF.out]; rfl, hb1⟩
        · go_wp2_with fail
          refine (HMA.out _ HRW.out).mono ?_
          rintro e w' ⟨⟨M, hM, rfl⟩, rfl⟩
          have HMX := Lib.hid hM
          clear hM
          by_cases hM0 : 16 ≤ M
          · have HF := Lib.hid (HOY.out (outB_yes HRM.out HMX.out.1 (.inr hM0)))
            go_wp2
            go_ret
            exact ⟨by rw [HF.out]; rfl, hb1⟩
          · go_wp2
            go_round
            case rel =>
              refine ⟨I + 1, by go_num, by omega, Lib.hid (fun j y hj hy => ?_), trivial⟩
              by_cases e : j = I
              · subst e
                have := HRI.out
                rw [hy] at this
                rw [Option.some.inj this]
                intro x hx
                have := HMM.out.2 x hx
                have := HMX.out.2 x hx
                omega
              · exact HA.out j y (by omega) hy
            case measure => simp [intOf]; omega
      · have HN := Lib.hid (HON.out (outB_of fun r hr x hx => by
          obtain ⟨j, hj⟩ := List.getElem?_of_mem hr
          exact HA.out j r (by have := (List.getElem?_eq_some_iff.1 hj).1; have := HL.out; omega) hj x hx))
        by_cases x0 : x < 0
        · have HN2 : Hid (F = 2) := Lib.hid (by rw [HN.out, if_pos (.inl x0)])
          go_wp2
          go_ret
          exact ⟨by rw [HN2.out]; rfl, hb1⟩
        · by_cases x1 : 256 ≤ x
          · have HN2 : Hid (F = 2) := Lib.hid (by rw [HN.out, if_pos (.inr x1)])
            go_wp2
            go_ret
            exact ⟨by rw [HN2.out]; rfl, hb1⟩
          · have HN2 : Hid (F = 0) := Lib.hid (by rw [HN.out, if_neg (by omega)])
            go_wp2
            go_ret
            exact ⟨by rw [HN2.out]; rfl, hb1⟩
set_option maxHeartbeats 1600000 in
theorem ref_RoundsCheck (a : Option Addr) (c : Nat) (R : Nat → Option Addr × Nat) (rows : List (List Int)) (x : Int) (w : World) (L : Nat) (h : RowR w a c R rows) (hL : rows.length = L) (hl : L ≤ 9223372036854775807) (hrl : ∀ r ∈ rows, r.length ≤ 9223372036854775807) :
    Calls Try.prog 18 #[.slice a L c, .int .i64 x] w fun e w' => e = .returned (.int .i64 (fsE rows x)) ∧ w = w' := by
  have HR := Lib.hid h
  have HL := Lib.hid hL
  have HRL := Lib.hid hrl
  by_cases h1 : 64 < L
  · have HF : Hid (fsE rows x = 1) := Lib.hid (by unfold fsE; rw [if_pos (by omega)])
    clear hL h hrl
    go_enter Try.func18, Try.ntmps18
    go_wp2
    go_ret
    exact ⟨by rw [HF.out]; rfl, rfl⟩
  have hF1 : fsE rows x = if longB 16 rows = true then 4 else if outB 16 rows = true then 2 else if x < 0 ∨ 256 ≤ x then 2 else 0 := by unfold fsE; rw [if_neg (by omega)]
  have HLY : Hid (longB 16 rows = true → fsE rows x = 4) := Lib.hid fun h => by rw [hF1, if_pos h]
  have HOY : Hid (longB 16 rows = false → outB 16 rows = true → fsE rows x = 2) := Lib.hid fun g h => by rw [hF1, if_neg (by rw [g]; simp), if_pos h]
  have HON : Hid (longB 16 rows = false → outB 16 rows = false → fsE rows x = if x < 0 ∨ 256 ≤ x then 2 else 0) := Lib.hid fun g h => by rw [hF1, if_neg (by rw [g]; simp), if_neg (by rw [h]; simp)]
  obtain ⟨F, hF⟩ : ∃ F, fsE rows x = F := ⟨_, rfl⟩
  rw [hF] at HLY HOY HON ⊢
  clear hF hF1 hL h hrl
  go_enter Try.func18, Try.ntmps18
  go_wp2
  go_loop [16] (fun i => ∃ I : Nat, i = .int .i64 I ∧ I ≤ L ∧ Hid (∀ (j : Nat) r, j < I → rows[j]? = some r → r.length = 16)) (fun i => L - (intOf i).toNat)
  case atStart => exact ⟨0, rfl, by omega, Lib.hid (fun j x h => absurd h (Nat.not_lt_zero _))⟩
  case round =>
    obtain ⟨I, rfl, hI, HA⟩ := hrel
    by_cases hlt : I < L
    · obtain ⟨r, hr⟩ : ∃ r, rows[I]? = some r := ⟨_, List.getElem?_eq_getElem (by rw [HL.out]; exact hlt)⟩
      obtain ⟨b, o, rfl, hc⟩ := HR.out.shape (by rw [HL.out]; omega)
      have kx := hc I r hr
      have rl := HRL.out r (List.mem_of_getElem? hr)
      obtain ⟨M, hM⟩ : ∃ M, r.length = M := ⟨_, rfl⟩
      rw [hM] at kx rl
      have HRI := Lib.hid hr
      have HMM := Lib.hid hM
      clear hc hr hM
      have i1 : (0 : Int) ≤ I := by omega
      have i2 : (I : Int) < L := by omega
      by_cases h : M = 16
      · subst h
        go_wp2
        go_round
        case rel =>
          refine ⟨I + 1, by go_num, by omega, Lib.hid (fun j y hj hy => ?_)⟩
          by_cases e : j = I
          · subst e
            have := HRI.out
            rw [hy] at this
            rw [Option.some.inj this]; exact HMM.out
          · exact HA.out j y (by omega) hy
        case measure => simp [intOf]; omega
      · have HF := Lib.hid (HLY.out (longB_yes (List.mem_of_getElem? HRI.out) (by rw [HMM.out]; exact h)))
        have e1 : (M == 16) = false := by simpa using h
        have e2 : ((M : Int) == 16) = false := by simp; omega
        have e3 : ((M : Int) != 16) = true := by simp; omega
        clear h
        go_wp2
        go_ret
        exact ⟨by rw [HF.out]; rfl, rfl⟩
    · have H16 := Lib.hid (longB_of (n := 16) (rows := rows) fun r hr => by
        obtain ⟨j, hj⟩ := List.getElem?_of_mem hr
        exact HA.out j r (by have := (List.getElem?_eq_some_iff.1 hj).1; have := HL.out; omega) hj)
      clear HA
      obtain rfl : I = L := by omega
      go_wp2
      go_loop [26] (fun i => ∃ J : Nat, i = .int .i64 J ∧ J ≤ I ∧ Hid (∀ (j : Nat) r, j < J → rows[j]? = some r → ∀ x ∈ r, 0 ≤ x ∧ x < 16)) (fun i => I - (intOf i).toNat)
      case atStart => exact ⟨0, rfl, by omega, Lib.hid (fun j x h => absurd h (Nat.not_lt_zero _))⟩
      case round =>
        obtain ⟨J, rfl, hJ, HA⟩ := hrel
        by_cases hlt : J < I
        · obtain ⟨r, hr⟩ : ∃ r, rows[J]? = some r := ⟨_, List.getElem?_eq_getElem (by rw [HL.out]; exact hlt)⟩
          obtain ⟨b, o, rfl, hc⟩ := HR.out.shape (by rw [HL.out]; omega)
          have kx := hc J r hr
          have h16 := longB_no H16.out r (List.mem_of_getElem? hr)
          rw [h16] at kx
          obtain ⟨b2, o2, hb2, hc2⟩ := (HR.out.row J r hr).shape (by omega)
          rw [hb2] at kx
          have HRI := Lib.hid hr
          have HC2 := Lib.hid hc2
          have HMM := Lib.hid h16
          clear hc hr h16 hc2 hb2
          have i1 : (0 : Int) ≤ J := by omega
          have i2 : (J : Int) < I := by omega
          go_wp2
          go_loop [32] (fun i => ∃ K : Nat, i = .int .i64 K ∧ K ≤ 16 ∧ Hid (∀ (j : Nat) y, j < K → r[j]? = some y → 0 ≤ y ∧ y < 16)) (fun i => 16 - (intOf i).toNat)
          case atStart => exact ⟨0, rfl, by omega, Lib.hid (fun j x h => absurd h (Nat.not_lt_zero _))⟩
          case round =>
            obtain ⟨K, rfl, hK, HB⟩ := hrel
            by_cases hlt2 : K < 16
            · obtain ⟨y, hy⟩ : ∃ y, r[K]? = some y := ⟨_, List.getElem?_eq_getElem (by rw [HMM.out]; exact hlt2)⟩
              have ky := HC2.out K y hy
              have HY := Lib.hid hy
              clear hy
              have i3 : (0 : Int) ≤ K := by omega
              have i4 : (K : Int) < 16 := by omega
              by_cases y0 : y < 0
              · have HF := Lib.hid (HOY.out H16.out (outB_yes (List.mem_of_getElem? HRI.out) (List.mem_of_getElem? HY.out) (.inl y0)))
                go_wp2
                go_ret
                exact ⟨by rw [HF.out]; rfl, rfl⟩
              · by_cases y1 : 15 < y
                · have HF := Lib.hid (HOY.out H16.out (outB_yes (List.mem_of_getElem? HRI.out) (List.mem_of_getElem? HY.out) (.inr (by omega))))
                  go_wp2
                  go_ret
                  exact ⟨by rw [HF.out]; rfl, rfl⟩
                · go_wp2
                  go_round
                  case rel =>
                    refine ⟨K + 1, by go_num, by omega, Lib.hid (fun j z hj hz => ?_)⟩
                    by_cases e : j = K
                    · subst e
                      have := HY.out
                      rw [hz] at this
                      rw [Option.some.inj this]; omega
                    · exact HB.out j z (by omega) hz
                  case measure => simp [intOf]; omega
            · go_wp2
              go_round
              case rel =>
                refine ⟨J + 1, by go_num, by omega, Lib.hid (fun j y hj hy => ?_)⟩
                by_cases e : j = J
                · subst e
                  have := HRI.out
                  rw [hy] at this
                  rw [Option.some.inj this]
                  intro x hx
                  obtain ⟨i, hi⟩ := List.getElem?_of_mem hx
                  exact HB.out i x (by have := (List.getElem?_eq_some_iff.1 hi).1; have := HMM.out; omega) hi
                · exact HA.out j y (by omega) hy
              case measure => simp [intOf]; omega
        · have HN := Lib.hid (HON.out H16.out (outB_of fun r hr x hx => by
            obtain ⟨j, hj⟩ := List.getElem?_of_mem hr
            exact HA.out j r (by have := (List.getElem?_eq_some_iff.1 hj).1; have := HL.out; omega) hj x hx))
          by_cases x0 : x < 0
          · have HN2 : Hid (F = 2) := Lib.hid (by rw [HN.out, if_pos (.inl x0)])
            go_wp2
            go_ret
            exact ⟨by rw [HN2.out]; rfl, rfl⟩
          · by_cases x1 : 255 < x
            · have HN2 : Hid (F = 2) := Lib.hid (by rw [HN.out, if_pos (.inr (by omega))])
              go_wp2
              go_ret
              exact ⟨by rw [HN2.out]; rfl, rfl⟩
            · have HN2 : Hid (F = 0) := Lib.hid (by rw [HN.out, if_neg (by omega)])
              go_wp2
              go_ret
              exact ⟨by rw [HN2.out]; rfl, rfl⟩
end Go.Proofs.Ytabhmhojlhagcaa

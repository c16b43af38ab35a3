/- Contracts of package pad: column, Plain, Perfect, Find; slices.Index over ints. -/
import Derived.Test.YtabhmhojlhagcaaPadM
namespace Go.Proofs.Ytabhmhojlhagcaa
open Go.RowKit Go.Maps Go.WideMaps
set_option linter.unusedVariables false
set_option linter.unusedSimpArgs false
theorem int_info : (Try.prog.info? 3).map (fun i => (i.zero, i.size, i.bytes)) = some (some (.int .i64 0), 1, 8) := by kernel_rfl
theorem cell_new1 (w : World) (v : Value) (T : TypeId) (hv : v.oneCell' = true) : ∀ (j : Nat) (u : Value), [v][j]? = some u → (w.alloc (.cells #[v] T)).cell? ((⟨w.heap.size, 0, none⟩ : Addr).add j) = some u := by
  intro j u hu
  match j, hu with
  | 0, hu => cases hu; simp [go_sem, Addr.add]
  | j + 1, hu => simp at hu
theorem own_rowI {W : World} {base : Nat} {v : Value} {e : TypeId} {xs : List Int} {L : Nat} (hL : xs.length = L) (h : W.ownsRow base e 1 v L (inV xs)) : ∃ a c, v = .slice a L c ∧ RowL W a c xs := by
  rcases h.2 with ⟨h1, h2⟩ | ⟨g, cap, cur, h1, h2, h3, h4, h5, h6, h7⟩
  · obtain rfl : L = 0 := h2
    have := List.eq_nil_of_length_eq_zero hL
    subst this
    exact ⟨none, 0, h1, RowL.nil _⟩
  · refine ⟨_, cap, h1, (fun e => by cases e), (fun ad e j u hu => ?_), by rw [hL]; exact h4⟩
    cases e
    have hj : j < L := by have := (List.getElem?_eq_some_iff.1 hu).1; rw [inV_len] at this; omega
    rw [add_at]
    have hl := h.1
    rw [← h7, List.getElem?_take, if_pos (by omega)] at hu
    simp only [World.cell?]; rw [h3]; simpa using hu
/-- what a message becomes, by all keys -/
def colL (rows : List (List Int)) (m : Nat) : List Int := rows.map fun r => r.getD m 0
theorem colL_len (rows : List (List Int)) (m : Nat) : (colL rows m).length = rows.length := by simp [colL]
theorem colL_next {rows : List (List Int)} {I m : Nat} {r : List Int} {x : Int} (h : rows[I]? = some r) (hx : r[m]? = some x) : colL (rows.take (I + 1)) m = colL (rows.take I) m ++ [x] := by
  unfold colL
  rw [List.take_add_one, h, List.map_append]
  simp [List.getD_eq_getElem?_getD, hx]
theorem colL_mem {rows : List (List Int)} {m L n : Nat} (h : Cip rows L n) (hm : m < n) {x : Int} (hx : x ∈ colL rows m) : ∃ (k : Nat) (r : List Int), rows[k]? = some r ∧ r[m]? = some x := by
  obtain ⟨r, hr, e⟩ := List.mem_map.1 hx
  obtain ⟨k, hk⟩ := List.getElem?_of_mem hr
  refine ⟨k, r, hk, ?_⟩
  have hl := h.row r hr
  rw [List.getD_eq_getElem?_getD, List.getElem?_eq_getElem (by omega)] at e
  rw [List.getElem?_eq_getElem (by omega)]
  simpa using e
set_option maxHeartbeats 3200000 in
theorem pad_column (a : Option Addr) (c : Nat) (R : Nat → Option Addr × Nat) (rows : List (List Int)) (w : World) (L n m : Nat) (h : RowR w a c R rows) (hc : Cip rows L n) (hm : m < n) :
    Calls Try.prog 39 #[.slice a L c, .int .i64 m] w fun e w' => (∃ a' c', e = .returned (.slice a' L c') ∧ RowL w' a' c' (colL rows m)) ∧ Below w.heap.size w w' := by
  have HR := Lib.hid h
  have HC := Lib.hid hc
  have l1 := hc.l1
  have n1 := hc.n1
  obtain ⟨i0, hi, hz0, hz1, hz2⟩ := info_parts int_info
  have hu : Try.prog.underlying 23 = some (.slice 3) := by kernel_rfl
  clear h hc
  go_enter Try.func39, Try.ntmps39
  go_wp2
  go_loopw [5, 10] (fun v i wr => ∃ I : Nat, i = .int .i64 I ∧ I ≤ L ∧ Below w.heap.size w wr ∧ wr.ownsRow w.heap.size 3 1 v I (inV (colL (rows.take I) m))) (fun _ i _ => L - (intOf i).toNat)
  case atStart => exact ⟨0, rfl, Nat.zero_le _, Below.refl _ _, World.ownsRow_nil _ _ _ _⟩
  case round =>
    obtain ⟨I, rfl, hI, hb, ho⟩ := hrel
    have hz := hb.size
    by_cases hlt : I < L
    · obtain ⟨r, hr⟩ : ∃ r, rows[I]? = some r := ⟨_, List.getElem?_eq_getElem (by rw [HC.out.len]; exact hlt)⟩
      have hrm := List.mem_of_getElem? hr
      have hrl := HC.out.row r hrm
      have hrr := HR.out.below hb (Nat.le_refl _)
      obtain ⟨b, o, rfl, hcell⟩ := hrr.shape (by rw [HC.out.len]; omega)
      have kx := hcell I r hr
      obtain ⟨b2, o2, hb2, hc2⟩ := (hrr.row I r hr).shape (by omega)
      rw [hb2, hrl] at kx
      obtain ⟨x, hx⟩ : ∃ x, r[m]? = some x := ⟨_, List.getElem?_eq_getElem (by omega)⟩
      have ky := hc2 m x hx
      have HN := Lib.hid (colL_next (rows := rows) hr hx)
      have HIN : Hid (inV (colL (rows.take (I + 1)) m) = inV (colL (rows.take I) m) ++ [.int .i64 x]) := Lib.hid (by rw [HN.out]; simp [inV])
      clear hcell hc2 hb2 hr hrm hrl hrr hx
      have i1 : (0 : Int) ≤ I := by omega
      have i2 : (I : Int) < L := by omega
      have i3 : (0 : Int) ≤ m := by omega
      have i4 : (m : Int) < n := by omega
      go_wp2_with (first
        | (at_builtin; refine wpList_append_own _ rfl _ _ 23 rfl w.heap.size 3 i0 (.int .i64 0) 1 8 hu hi hz0 hz1 hz2 rfl (by decide) _ _ _ rfl (ho.alloc _) ⟨wr.heap.size, 0, none⟩ 1 1 [.int .i64 x] rfl rfl (cell_new1 _ _ _ rfl) (by simp [Value.oneCell']) (by unfold maxLen; omega) (by omega) (by simp; omega) ?_; intro v' w2 hown' hg2 hnil2))
      go_roundw
      case rel => exact ⟨I + 1, by go_num, by omega, (hb.alloc (by omega) _).grown hg2 (by simp; omega) (fun j hj => (ho.lt j hj).1), by rw [HIN.out]; exact hown'⟩
      case measure => simp [intOf]; omega
    · obtain rfl : I = L := by omega
      have HT : Hid (rows.take I = rows) := Lib.hid (List.take_of_length_le (by rw [HC.out.len]; exact Nat.le_refl _))
      obtain ⟨a', c', rfl, hrow⟩ := own_rowI (by rw [colL_len, HT.out]; exact HC.out.len) ho
      have HRW : Hid (RowL wr a' c' (colL rows m)) := Lib.hid (by rw [HT.out] at hrow; exact hrow)
      clear ho hrow
      go_wp2
      go_ret
      exact ⟨⟨a', c', rfl, HRW.out⟩, hb⟩
def plainB (rows : List (List Int)) : Bool := rows.all fun r => decide r.Nodup
set_option maxHeartbeats 3200000 in
theorem pad_Plain (a : Option Addr) (c : Nat) (R : Nat → Option Addr × Nat) (rows : List (List Int)) (w : World) (L n : Nat) (h : RowR w a c R rows) (hc : Cip rows L n) :
    Calls Try.prog 22 #[.slice a L c] w fun e w' => e = .returned (.tuple #[.bool (plainB rows), .int .i64 0]) ∧ Below w.heap.size w w' := by
  have HR := Lib.hid h
  have HC := Lib.hid hc
  have l1 := hc.l1
  have n1 := hc.n1
  have HCH := Lib.hid fun w h => pad_Check a c R rows w L h hc.len (by omega) (fun r hr => by rw [hc.row r hr]; omega)
  rw [(cpE_of hc).1] at HCH
  have HNO : Hid (∀ (r : List Int), r ∈ rows → ¬ r.Nodup → plainB rows = false) := Lib.hid fun r hr hn => List.all_eq_false.2 ⟨r, hr, by simpa using hn⟩
  have HYE : Hid ((∀ r ∈ rows, r.Nodup) → plainB rows = true) := Lib.hid fun h => List.all_eq_true.2 fun r hr => by simpa using h r hr
  obtain ⟨T, hT⟩ : ∃ T, plainB rows = T := ⟨_, rfl⟩
  rw [hT] at HNO HYE ⊢
  have um : Try.prog.underlying 58 = some (.map 3 3) := by kernel_rfl
  clear hT h hc
  go_enter Try.func22, Try.ntmps22
  go_wp2_with fail
  refine (HCH.out _ HR.out).mono ?_
  rintro e w1 ⟨rfl, hb1⟩
  have HR1 := Lib.hid (HR.out.below hb1 (Nat.le_refl _))
  go_wp2
  go_loopw [14] (fun i wr => ∃ I : Nat, i = .int .i64 I ∧ I ≤ L ∧ Below w1.heap.size w1 wr ∧ Hid (∀ (j : Nat) r, j < I → rows[j]? = some r → r.Nodup)) (fun i _ => L - (intOf i).toNat)
  case atStart => exact ⟨0, rfl, Nat.zero_le _, Below.refl _ _, Lib.hid (fun j x h => absurd h (Nat.not_lt_zero _))⟩
  case round =>
    obtain ⟨I, rfl, hI, hb, HA⟩ := hrel
    have hz := hb.size
    by_cases hlt : I < L
    · obtain ⟨r, hr⟩ : ∃ r, rows[I]? = some r := ⟨_, List.getElem?_eq_getElem (by rw [HC.out.len]; exact hlt)⟩
      have hrm := List.mem_of_getElem? hr
      have hrl := HC.out.row r hrm
      have hrr := HR1.out.below hb (Nat.le_refl _)
      obtain ⟨b, o, rfl, hcell⟩ := hrr.shape (by rw [HC.out.len]; omega)
      have kx := hcell I r hr
      rw [hrl] at kx
      have HCO := Lib.hid fun w h => pad_counted (R I).1 (R I).2 r w n h hrl (by omega) (fun x hx => by have := HC.out.rng r hrm x hx; omega)
      have HRW := Lib.hid (hrr.row I r hr)
      have HRI := Lib.hid hr
      have HRM := Lib.hid hrm
      have HRL := Lib.hid hrl
      clear hcell hr hrm hrl hrr
      have i1 : (0 : Int) ≤ I := by omega
      have i2 : (I : Int) < L := by omega
      go_wp2_with fail
      refine (HCO.out _ HRW.out).mono ?_
      rintro e w2 ⟨rfl, hb2, D, hown, hcnt⟩
      have hle := hcnt.le
      have heq := hcnt.eq
      rw [HRL.out] at hle heq
      obtain ⟨S, hS⟩ : ∃ S, Maps.size D = S := ⟨_, rfl⟩
      have HS := Lib.hid hS
      rw [hS] at hle heq
      clear hS hcnt
      by_cases hnd : r.Nodup
      · have HND := Lib.hid hnd
        obtain rfl : S = n := heq.2 hnd
        clear heq hnd
        go_wp2_with (first
          | (at_len; refine wpList_len_own _ rfl _ 58 rfl 3 3 um _ wr.heap.size S D rfl hown ?_; rw [HS.out]))
        go_roundw
        case rel =>
          refine ⟨I + 1, by go_num, by omega, below_two hb hb2, Lib.hid (fun j y hj hy => ?_)⟩
          by_cases e : j = I
          · subst e
            have := HRI.out
            rw [hy] at this
            rw [Option.some.inj this]; exact HND.out
          · exact HA.out j y (by omega) hy
        case measure => simp [intOf]; omega
      · have HT : Hid (T = false) := Lib.hid (HNO.out r HRM.out hnd)
        have hlt2 : S < n := by
          rcases Nat.lt_or_ge S n with h | h
          · exact h
          · exact absurd (heq.1 (by omega)) hnd
        clear heq hnd
        go_wp2_with (first
          | (at_len; refine wpList_len_own _ rfl _ 58 rfl 3 3 um _ wr.heap.size n D rfl hown ?_; rw [HS.out]))
        go_ret2
        exact ⟨by rw [HT.out]; rfl, below_two hb1 (below_two hb hb2)⟩
    · have HT : Hid (T = true) := Lib.hid (HYE.out fun r hr => by
        obtain ⟨j, hj⟩ := List.getElem?_of_mem hr
        exact HA.out j r (by have := (List.getElem?_eq_some_iff.1 hj).1; have := HC.out.len; omega) hj)
      go_wp2
      go_ret2
      exact ⟨by rw [HT.out]; rfl, below_two hb1 hb⟩
theorem pad_Plain_no (a : Option Addr) (c : Nat) (R : Nat → Option Addr × Nat) (rows : List (List Int)) (w : World) (L : Nat) (h : RowR w a c R rows) (hL : rows.length = L) (hl : L ≤ 9223372036854775807) (hrl : ∀ r ∈ rows, r.length ≤ 9223372036854775807) (hf : ¬ cpE rows = 0) :
    Calls Try.prog 22 #[.slice a L c] w fun e w' => e = .returned (.tuple #[.bool false, .int .i64 (cpE rows)]) ∧ Below w.heap.size w w' := by
  have HR := Lib.hid h
  have HCH := Lib.hid fun w h => pad_Check a c R rows w L h hL hl hrl
  obtain ⟨t, ht⟩ : ∃ t, cpE rows = t := ⟨_, rfl⟩
  rw [ht] at HCH hf ⊢
  have e1 : (t == 0) = false := by simpa using hf
  have e2 : (t != 0) = true := by simpa using hf
  clear ht h hL hrl
  go_enter Try.func22, Try.ntmps22
  go_wp2_with fail
  refine (HCH.out _ HR.out).mono ?_
  rintro e w1 ⟨rfl, hb1⟩
  go_wp2
  go_ret2
  exact ⟨rfl, hb1⟩
def perfB (rows : List (List Int)) (n : Nat) : Bool := (List.range n).all fun m => sameC (colL rows 0) (colL rows m)
set_option maxHeartbeats 3200000 in
theorem pad_Perfect (a : Option Addr) (c : Nat) (R : Nat → Option Addr × Nat) (rows : List (List Int)) (w : World) (L n : Nat) (h : RowR w a c R rows) (hc : Cip rows L n) :
    Calls Try.prog 25 #[.slice a L c] w fun e w' => e = .returned (.tuple #[.bool (perfB rows n), .int .i64 0]) ∧ Below w.heap.size w w' := by
  have HR := Lib.hid h
  have HC := Lib.hid hc
  have l0 := hc.l0
  have n0 := hc.n0
  have l1 := hc.l1
  have n1 := hc.n1
  have HCH := Lib.hid fun w h => pad_Check a c R rows w L h hc.len (by omega) (fun r hr => by rw [hc.row r hr]; omega)
  rw [(cpE_of hc).1] at HCH
  have HNO : Hid (∀ m, m < n → sameC (colL rows 0) (colL rows m) = false → perfB rows n = false) := Lib.hid fun m hm h => List.all_eq_false.2 ⟨m, List.mem_range.2 hm, by rw [h]; simp⟩
  have HYE : Hid ((∀ m, m < n → sameC (colL rows 0) (colL rows m) = true) → perfB rows n = true) := Lib.hid fun h => List.all_eq_true.2 fun m hm => h m (List.mem_range.1 hm)
  obtain ⟨T, hT⟩ : ∃ T, perfB rows n = T := ⟨_, rfl⟩
  rw [hT] at HNO HYE ⊢
  have HCL := Lib.hid fun w m h hm => pad_column a c R rows w L n m h hc hm
  have HCO := Lib.hid fun a c w m (hm : m < n) (h : RowL w a c (colL rows m)) => pad_counted a c (colL rows m) w L h (by rw [colL_len, hc.len]) (by omega) (fun x hx => by
    obtain ⟨k, r, h1, h2⟩ := colL_mem hc hm hx
    have := hc.rng r (List.mem_of_getElem? h1) x (List.mem_of_getElem? h2)
    omega)
  obtain ⟨r0, hr0⟩ : ∃ r, rows[0]? = some r := ⟨_, List.getElem?_eq_getElem (by rw [hc.len]; omega)⟩
  have HR00 := Lib.hid hr0
  have HRN := Lib.hid (hc.row r0 (List.mem_of_getElem? hr0))
  clear hT h hc hr0
  go_enter Try.func25, Try.ntmps25
  go_wp2_with fail
  refine (HCH.out _ HR.out).mono ?_
  rintro e w1 ⟨rfl, hb1⟩
  have HR1 := Lib.hid (HR.out.below hb1 (Nat.le_refl _))
  go_wp2_with fail
  refine (HCL.out _ 0 HR1.out (by omega)).mono ?_
  rintro e w2 ⟨⟨a2, c2, rfl, hrow2⟩, hb2⟩
  have HRW2 := Lib.hid hrow2
  clear hrow2
  go_wp2_with fail
  refine (HCO.out _ _ _ 0 (by omega) HRW2.out).mono ?_
  rintro e w3 ⟨rfl, hb3, D1, hown1, hcnt1⟩
  have HC1 := Lib.hid hcnt1
  have HO1 := Lib.hid hown1
  have HR3 := Lib.hid ((HR1.out.below hb2 (Nat.le_refl _)).below hb3 (Nat.le_refl _))
  have hbw := below_two (below_two hb1 hb2) hb3
  obtain ⟨bm, hbm⟩ : ∃ bm, w2.heap.size = bm := ⟨_, rfl⟩
  rw [hbm] at HO1 ⊢
  clear hcnt1 hown1 hb1 hb2 hb3 hbm
  obtain ⟨b, o, rfl, hcell⟩ := HR3.out.shape (by rw [HC.out.len]; omega)
  have k0 := hcell 0 r0 HR00.out
  rw [HRN.out, Nat.add_zero] at k0
  have nl3 : ¬ L = 0 := by omega
  clear hcell
  go_wp2
  go_loopw [19] (fun i wr => ∃ I : Nat, i = .int .i64 I ∧ I ≤ n ∧ Below w3.heap.size w3 wr ∧ Hid (∀ m, m < I → sameC (colL rows 0) (colL rows m) = true)) (fun i _ => n - (intOf i).toNat)
  case atStart => exact ⟨0, rfl, Nat.zero_le _, Below.refl _ _, Lib.hid (fun j h => absurd h (Nat.not_lt_zero _))⟩
  case round =>
    obtain ⟨I, rfl, hI, hb, HA⟩ := hrel
    clear k0
    have HRr := Lib.hid (HR3.out.below hb (Nat.le_refl _))
    have HOr := Lib.hid (ownsMap_below HO1.out hb)
    by_cases hlt : I < n
    · go_wp2_with fail
      refine (HCL.out _ I HRr.out hlt).mono ?_
      rintro e w4 ⟨⟨a4, c4, rfl, hrow4⟩, hb4⟩
      have HRW4 := Lib.hid hrow4
      have HO4 := Lib.hid (ownsMap_below HOr.out hb4)
      clear hrow4
      go_wp2_with fail
      refine (HCO.out _ _ _ I hlt HRW4.out).mono ?_
      rintro e w5 ⟨rfl, hb5, D2, hown2, hcnt2⟩
      have HE := Lib.hid (maps_EqualI _ _ _ _ D1 D2 _ _ w5 (ownsMap_below HO4.out hb5) hown2 HC1.out hcnt2)
      obtain ⟨q, hq⟩ : ∃ q, sameC (colL rows 0) (colL rows I) = q := ⟨_, rfl⟩
      rw [hq] at HE
      have HQ := Lib.hid hq
      have hb6 := below_two hb4 hb5
      clear hown2 hcnt2 hq hb4 hb5
      go_wp2_with fail
      refine HE.out.mono ?_
      rintro e w6 ⟨rfl, hb7⟩
      cases q with
      | true =>
        go_wp2
        go_roundw
        case rel =>
          refine ⟨I + 1, by go_num, by omega, below_two hb (below_two hb6 hb7), Lib.hid (fun j hj => ?_)⟩
          by_cases e : j = I
          · subst e; exact HQ.out
          · exact HA.out j (by omega)
        case measure => simp [intOf]; omega
      | false =>
        have HT : Hid (T = false) := Lib.hid (HNO.out I hlt HQ.out)
        go_wp2
        go_ret2
        exact ⟨by rw [HT.out]; rfl, below_two hbw (below_two hb (below_two hb6 hb7))⟩
    · have HT : Hid (T = true) := Lib.hid (HYE.out fun m hm => HA.out m (by omega))
      go_wp2
      go_ret2
      exact ⟨by rw [HT.out]; rfl, below_two hbw hb⟩
theorem pad_Perfect_no (a : Option Addr) (c : Nat) (R : Nat → Option Addr × Nat) (rows : List (List Int)) (w : World) (L : Nat) (h : RowR w a c R rows) (hL : rows.length = L) (hl : L ≤ 9223372036854775807) (hrl : ∀ r ∈ rows, r.length ≤ 9223372036854775807) (hf : ¬ cpE rows = 0) :
    Calls Try.prog 25 #[.slice a L c] w fun e w' => e = .returned (.tuple #[.bool false, .int .i64 (cpE rows)]) ∧ Below w.heap.size w w' := by
  have HR := Lib.hid h
  have HCH := Lib.hid fun w h => pad_Check a c R rows w L h hL hl hrl
  obtain ⟨t, ht⟩ : ∃ t, cpE rows = t := ⟨_, rfl⟩
  rw [ht] at HCH hf ⊢
  have e1 : (t == 0) = false := by simpa using hf
  have e2 : (t != 0) = true := by simpa using hf
  clear ht h hL hrl
  go_enter Try.func25, Try.ntmps25
  go_wp2_with fail
  refine (HCH.out _ HR.out).mono ?_
  rintro e w1 ⟨rfl, hb1⟩
  go_wp2
  go_ret2
  exact ⟨rfl, hb1⟩
/-- the first place of a number -/
def FirstAt (xs : List Int) (v : Int) (m : Nat) : Prop := xs[m]? = some v ∧ ∀ j, j < m → xs[j]? ≠ some v
set_option maxHeartbeats 1600000 in
theorem slices_IndexI (a : Option Addr) (c : Nat) (xs : List Int) (v : Int) (w : World) (L : Nat) (h : RowL w a c xs) (hL : xs.length = L) (hl : L ≤ 9223372036854775807) :
    Calls Try.prog 38 #[.slice a L c, .int .i64 v] w fun e w' => ((∃ m : Nat, FirstAt xs v m ∧ e = .returned (.int .i64 m)) ∨ (v ∉ xs ∧ e = .returned (.int .i64 (-1)))) ∧ w = w' := by
  have HR := Lib.hid h
  have HL := Lib.hid hL
  clear h hL
  go_enter Try.func38, Try.ntmps38
  go_wp2
  go_loop [8] (fun i => ∃ I : Nat, i = .int .i64 I ∧ I ≤ L ∧ Hid (∀ j, j < I → xs[j]? ≠ some v)) (fun i => L - (intOf i).toNat)
  case atStart => exact ⟨0, rfl, by omega, Lib.hid (fun j h => absurd h (Nat.not_lt_zero _))⟩
  case round =>
    obtain ⟨I, rfl, hI, HA⟩ := hrel
    by_cases hlt : I < L
    · obtain ⟨x, hx⟩ : ∃ x, xs[I]? = some x := ⟨_, List.getElem?_eq_getElem (by rw [HL.out]; exact hlt)⟩
      obtain ⟨b, o, rfl, hc⟩ := HR.out.shape (by rw [HL.out]; omega)
      have kx := hc I x hx
      have HX := Lib.hid hx
      clear hc hx
      have i1 : (0 : Int) ≤ I := by omega
      have i2 : (I : Int) < L := by omega
      by_cases e : v = x
      · subst e
        go_wp2
        go_ret
        exact ⟨.inl ⟨I, ⟨HX.out, HA.out⟩, rfl⟩, rfl⟩
      · have e1 : (v == x) = false := by simpa using e
        have HNE := Lib.hid e
        clear e
        go_wp2
        go_round
        case rel =>
          refine ⟨I + 1, by go_num, by omega, Lib.hid (fun j hj hy => ?_)⟩
          by_cases e : j = I
          · subst e; rw [HX.out] at hy; exact HNE.out (Option.some.inj hy).symm
          · exact HA.out j (by omega) hy
        case measure => simp [intOf]; omega
    · have HNM : Hid (v ∉ xs) := Lib.hid fun hm => by
        obtain ⟨j, hj⟩ := List.getElem?_of_mem hm
        exact HA.out j (by have := (List.getElem?_eq_some_iff.1 hj).1; have := HL.out; omega) hj
      go_wp2
      go_ret
      exact ⟨.inr ⟨HNM.out, rfl⟩, rfl⟩
end Go.Proofs.Ytabhmhojlhagcaa

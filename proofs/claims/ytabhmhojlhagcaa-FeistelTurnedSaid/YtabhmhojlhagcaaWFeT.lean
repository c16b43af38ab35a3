/- The walk of FeistelTurned. -/
import Derived.Test.YtabhmhojlhagcaaWFeB
namespace Go.Proofs.Ytabhmhojlhagcaa
open Go.RowKit
set_option linter.unusedVariables false
set_option linter.unusedSimpArgs false
theorem row_info : (Try.prog.info? 23).map (fun i => (i.zero, i.size, i.bytes)) = some (some (.slice none 0 0), 1, 24) := by kernel_rfl
/-- the rows from the last one on, as values -/
def backV (R : Nat → Option Addr × Nat) (L n : Nat) : List Value := ((List.range L).reverse.take n).map fun i => .slice (R i).1 16 (R i).2
theorem backV_len (R : Nat → Option Addr × Nat) {L n : Nat} (h : n ≤ L) : (backV R L n).length = n := by simp [backV]; omega
theorem backV_next (R : Nat → Option Addr × Nat) {L K : Nat} (h : K < L) : backV R L (L - (K + 1)) ++ [.slice (R K).1 16 (R K).2] = backV R L (L - K) := by
  unfold backV
  rw [← rev_step h, List.map_append]; rfl
theorem backV_at (R : Nat → Option Addr × Nat) {L i : Nat} (h : i < L) : (backV R L L)[i]? = some (.slice (R (L - 1 - i)).1 16 (R (L - 1 - i)).2) := by
  unfold backV
  rw [List.take_of_length_le (by simp), List.getElem?_map, List.getElem?_reverse (by simpa using h), List.length_range, List.getElem?_range (by omega)]; rfl
theorem cell_new1 (w : World) (v : Value) (T : TypeId) (hv : v.oneCell' = true) : ∀ (j : Nat) (u : Value), [v][j]? = some u → (w.alloc (.cells #[v] T)).cell? ((⟨w.heap.size, 0, none⟩ : Addr).add j) = some u := by
  intro j u hu
  match j, hu with
  | 0, hu => cases hu; simp [go_sem, Addr.add]
  | j + 1, hu => simp at hu
theorem own_rowR {W : World} {base : Nat} {v : Value} {e : TypeId} {R : Nat → Option Addr × Nat} {rows : List (List Int)} {L a c} (hL : rows.length = L) (h16 : ∀ r ∈ rows, r.length = 16) (hr : RowR W a c R rows) (h : W.ownsRow base e 1 v L (backV R L L)) :
    ∃ a' c' R', v = .slice a' L c' ∧ RowR W a' c' R' rows.reverse := by
  rcases h.2 with ⟨h1, h2⟩ | ⟨g, cap, cur, h1, h2, h3, h4, h5, h6, h7⟩
  · obtain rfl : L = 0 := h2
    have := List.eq_nil_of_length_eq_zero hL
    subst this
    exact ⟨none, 0, R, h1, fun _ => ⟨rfl, rfl⟩, (fun ad e => by cases e), (fun i xs h => by simp at h), Nat.le_refl _⟩
  · refine ⟨_, cap, fun i => R (L - 1 - i), h1, (fun e => by cases e), (fun ad e i xs hx => ?_), (fun i xs hx => ?_), by rw [List.length_reverse, hL]; exact h4⟩
    · cases e
      have hi : i < L := by have := (List.getElem?_eq_some_iff.1 hx).1; rw [List.length_reverse] at this; omega
      rw [add_at, h16 xs (List.mem_reverse.1 (List.mem_of_getElem? hx))]
      have hu := backV_at R hi
      have hl := h.1
      rw [← h7, List.getElem?_take, if_pos (by omega)] at hu
      simp only [World.cell?]; rw [h3]; simpa using hu
    · have hi : i < L := by have := (List.getElem?_eq_some_iff.1 hx).1; rw [List.length_reverse] at this; omega
      rw [List.getElem?_reverse (by omega), hL] at hx
      exact hr.row _ xs hx
theorem keep_swapped (x : Nat) (w : World) (h : x < 256) : Calls Try.prog 19 #[.int .i64 x] w fun e w' => e = .returned (.int .i64 (swN x)) ∧ w = w' := by
  go_enter Try.func19, Try.ntmps19
  go_wp2
  go_ret
  exact ⟨ret_int (by unfold swN; omega), rfl⟩
set_option maxHeartbeats 3200000 in
theorem ft_go (a : Option Addr) (len cap : Nat) (R : Nat → Option Addr × Nat) (rows : List (List Int)) (X : Nat) (w : World) (hL : rows.length = len) (hr : RowR w a cap R rows) (hrl : ∀ r ∈ rows, r.length ≤ 9223372036854775807) (hf : fsE rows X = 0) :
    Calls Try.prog 6 #[.slice a len cap, .int .i64 X] w fun e w' => e = .returned (.bool true) ∧ Below w.heap.size w w' := by
  obtain ⟨hn, x0, x1⟩ := fsE_zero.1 hf
  have l64 := hn.len
  rw [hL] at l64
  have HR := Lib.hid hr
  have HLn := Lib.hid hL
  have H16 := Lib.hid hn.row
  have X2 : X < 256 := by omega
  have sX := swN_lt X2
  have HO := Lib.hid fun w h => feistel_Open a cap R rows X w len h hL hf
  have HC := Lib.hid fun w h => ref_RoundsCheck a cap R rows X w len h hL (by omega) hrl
  have HS := Lib.hid fun a c R w h => feistel_Seal a c R rows.reverse (swN X) w len h (by rw [List.length_reverse, hL]) (fsE_zero.2 ⟨hn.reverse, by omega⟩)
  have HW := Lib.hid fun w => keep_swapped X w X2
  have ht := openN_turned hn X2
  have tl := sealN_lt hn.reverse sX
  have H0 : Hid (len = 0 → openN rows X = X) := Lib.hid fun h => by
    have : rows = [] := List.eq_nil_of_length_eq_zero (by omega)
    subst this; exact un_pr X
  rw [hf] at HC
  obtain ⟨s, hs⟩ : ∃ s, swN X = s := ⟨_, rfl⟩
  rw [hs] at HS HW ht tl
  obtain ⟨t, hte⟩ : ∃ t, sealN rows.reverse s = t := ⟨_, rfl⟩
  rw [hte] at HS ht tl
  have HW2 := Lib.hid fun w => keep_swapped t w tl
  rw [← ht] at HW2
  obtain ⟨o, ho⟩ : ∃ o, openN rows X = o := ⟨_, rfl⟩
  rw [ho] at HO HW2 H0
  obtain ⟨i0, hi, hz0, hz1, hz2⟩ := info_parts row_info
  have hu : Try.prog.underlying 33 = some (.slice 23) := by kernel_rfl
  clear hs hte ho ht hf hn hr hL hrl x0 x1 tl sX
  go_enter Try.func6, Try.ntmps6
  go_wp2_with fail
  refine (HO.out _ HR.out).mono ?_
  rintro e w1 ⟨rfl, hb1⟩
  have HR1 := Lib.hid (HR.out.below hb1 (Nat.le_refl _))
  go_wp2_with fail
  refine (HC.out _ HR1.out).mono ?_
  rintro e w' ⟨rfl, rfl⟩
  go_wp2
  go_loopw [7, 8] (fun v i wr => ∃ K : Nat, i = .int .i64 ((K : Int) - 1) ∧ K ≤ len ∧ Below w1.heap.size w1 wr ∧ wr.ownsRow w1.heap.size 23 1 v (len - K) (backV R len (len - K))) (fun _ i _ => (intOf i + 1).toNat)
  case atStart => exact ⟨len, rfl, Nat.le_refl _, Below.refl _ _, by rw [Nat.sub_self]; exact World.ownsRow_nil _ _ _ _⟩
  case round =>
    obtain ⟨K, rfl, hK, hb, ho⟩ := hrel
    have hz := hb.size
    have HRr := Lib.hid (HR1.out.below hb (Nat.le_refl _))
    by_cases hK0 : K = 0
    · subst hK0
      obtain ⟨a', c', R', rfl, hrow⟩ := own_rowR HLn.out H16.out HRr.out ho
      have HRV := Lib.hid hrow
      clear ho hrow
      go_wp2_with fail
      refine (HW.out _).mono ?_
      rintro e w' ⟨rfl, rfl⟩
      go_wp2_with fail
      refine (HS.out _ _ _ _ HRV.out).mono ?_
      rintro e w3 ⟨rfl, hb3⟩
      go_wp2_with fail
      refine (HW2.out _).mono ?_
      rintro e w' ⟨rfl, rfl⟩
      by_cases h0 : len = 0
      · have e := H0.out h0
        subst e
        subst h0
        go_wp2
        go_ret
        exact ⟨rfl, below_two (below_two hb1 hb) hb3⟩
      · have h1 : 0 < len := by omega
        go_wp2
        go_ret
        exact ⟨rfl, below_two (below_two hb1 hb) hb3⟩
    · obtain ⟨k, rfl⟩ : ∃ k, K = k + 1 := ⟨K - 1, by omega⟩
      rw [show (((k + 1 : Nat) : Int) - 1) = (k : Int) by omega]
      clear hK0
      obtain ⟨row, hrow⟩ : ∃ r, rows[k]? = some r := ⟨_, List.getElem?_eq_getElem (by rw [HLn.out]; omega)⟩
      obtain ⟨b, o', rfl, hc⟩ := HRr.out.shape (by rw [HLn.out]; omega)
      have kx := hc k row hrow
      rw [H16.out row (List.mem_of_getElem? hrow)] at kx
      have HN := Lib.hid (backV_next R (L := len) (K := k) (by omega))
      have HLk := Lib.hid (show len - (k + 1) + 1 = len - k by omega)
      have i1 : (0 : Int) ≤ k := by omega
      have i2 : (k : Int) < len := by omega
      obtain ⟨m, hm⟩ : ∃ m, len - (k + 1) = m := ⟨_, rfl⟩
      rw [hm] at ho HN HLk
      have m64 : m ≤ 64 := by omega
      clear hc hrow hm
      go_wp2_with (first
        | (at_builtin; refine wpList_append_own _ rfl _ _ 33 rfl w1.heap.size 23 i0 (.slice none 0 0) 1 24 hu hi hz0 hz1 hz2 rfl (by decide) _ _ _ rfl (ho.alloc _) ⟨wr.heap.size, 0, none⟩ 1 1 [.slice (R k).1 16 (R k).2] rfl rfl (cell_new1 _ _ _ rfl) (by simp [Value.oneCell']) (by unfold maxLen; omega) (by omega) (by simp; omega) ?_; intro v' w2 hown' hg2 hnil2))
      go_roundw
      case rel => exact ⟨k, by go_num, by omega, (hb.alloc (by omega) _).grown hg2 (by simp; omega) (fun j hj => (ho.lt j hj).1), by rw [← HLk.out, HLk.out, ← HN.out, ← HLk.out]; exact hown'⟩
      case measure => simp [intOf]
set_option maxHeartbeats 3200000 in
theorem ft_no (a : Option Addr) (len cap : Nat) (R : Nat → Option Addr × Nat) (rows : List (List Int)) (x : Int) (w : World) (hL : rows.length = len) (hl : len ≤ 9223372036854775807) (hr : RowR w a cap R rows) (hrl : ∀ r ∈ rows, r.length ≤ 9223372036854775807) (hf : ¬ fsE rows x = 0) :
    Calls Try.prog 6 #[.slice a len cap, .int .i64 x] w fun e w' => e = .returned (.bool true) ∧ Below w.heap.size w w' := by
  have HR := Lib.hid hr
  have HO := Lib.hid fun w h => feistel_Open_no a cap R rows x w len h hL hl hrl hf
  have HC := Lib.hid fun w h => ref_RoundsCheck a cap R rows x w len h hL hl hrl
  obtain ⟨t, ht⟩ : ∃ t, fsE rows x = t := ⟨_, rfl⟩
  rw [ht] at hf HO HC
  have e1 : (t == 0) = false := by simpa using hf
  have e2 : (t != 0) = true := by simpa using hf
  clear ht hf hL hr hrl
  go_enter Try.func6, Try.ntmps6
  go_wp2_with fail
  refine (HO.out _ HR.out).mono ?_
  rintro e w1 ⟨rfl, hb1⟩
  have HR1 := Lib.hid (HR.out.below hb1 (Nat.le_refl _))
  go_wp2_with fail
  refine (HC.out _ HR1.out).mono ?_
  rintro e w' ⟨rfl, rfl⟩
  go_wp2
  go_ret
  exact ⟨rfl, hb1⟩
theorem WFeistelTurned (a0 : Option Addr) (len0 cap0 : Nat) (z0 : List (List Int)) (a1 : Int) (w : World) (w0 : IsMat w a0 len0 cap0 z0) (w1 : (Lit.int .i64 a1).wf = true) :
    Calls Try.prog 6 #[.slice a0 len0 cap0, .int .i64 a1] w fun e w' => e = .returned (.bool true) ∧ Below w.heap.size w w' := by
  obtain ⟨hL, hl, ⟨R, hr⟩, hrow⟩ := w0
  by_cases hf : fsE z0 a1 = 0
  · obtain ⟨_, x0, x1⟩ := fsE_zero.1 hf
    obtain ⟨X, rfl⟩ := Int.eq_ofNat_of_zero_le x0
    exact ft_go a0 len0 cap0 R z0 X w hL hr (fun r h => (hrow r h).1) hf
  · exact ft_no a0 len0 cap0 R z0 a1 w hL hl hr (fun r h => (hrow r h).1) hf
end Go.Proofs.Ytabhmhojlhagcaa

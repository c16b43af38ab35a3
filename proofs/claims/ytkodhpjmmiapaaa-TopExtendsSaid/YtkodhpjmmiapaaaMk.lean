/- The contract of cell.Make. -/
import Derived.Test.YtkodhpjmmiapaaaCell
import Derived.Test.YtkodhpjmmiapaaaOwn
import Derived.Laws.CopyOwn
import Derived.Outline
namespace Go.Proofs.Ytkodhpjmmiapaaa
open Go.RowKit
set_option linter.unusedVariables false
set_option linter.unusedSimpArgs false
def zer15 : List Value := List.replicate 15 (Value.int .u8 0)
/-- what stands ahead of a cell's sum -/
def bodyN (xs : List Nat) : List Nat := xs.length :: (xs ++ List.replicate (14 - xs.length) 0)
/-- a cell -/
def cellN (k n : Nat) (xs : List Nat) : List Nat := bodyN xs ++ csumN k n (bodyN xs)
theorem bodyN_len {xs : List Nat} (h : xs.length ≤ 14) : (bodyN xs).length = 15 := by simp [bodyN]; omega
theorem cellN_len {k n : Nat} {xs : List Nat} (h : xs.length ≤ 14) : (cellN k n xs).length = 17 := by simp [cellN, bodyN_len h, csumN_len]
theorem bodyN_lt {xs : List Nat} (h : xs.length ≤ 14) (hx : ∀ x ∈ xs, x < 256) : ∀ x ∈ bodyN xs, x < 256 := fun x hm => by
  simp only [bodyN, List.mem_cons, List.mem_append, List.mem_replicate] at hm
  rcases hm with rfl | hm | ⟨_, rfl⟩
  · omega
  · exact hx x hm
  · omega
theorem csumN_lt (k n : Nat) (xs : List Nat) : ∀ x ∈ csumN k n xs, x < 256 := litN_lt _ _
theorem cellN_lt {k n : Nat} {xs : List Nat} (h : xs.length ≤ 14) (hx : ∀ x ∈ xs, x < 256) : ∀ x ∈ cellN k n xs, x < 256 := fun x hm => by
  rcases List.mem_append.1 hm with h1 | h1
  · exact bodyN_lt h hx x h1
  · exact csumN_lt _ _ _ x h1
theorem body_splice {xs : List Nat} (h : xs.length ≤ 14) : splice (zer15.set 0 (.int .u8 (xs.length : Nat))) 1 (byV xs) = byV (bodyN xs) := by
  unfold splice bodyN byV zer15
  simp only [List.length_map, List.map_cons, List.map_append, List.map_replicate]
  rw [show List.replicate 15 (Value.int .u8 0) = Value.int .u8 0 :: List.replicate 14 (Value.int .u8 0) from rfl, List.set_cons_zero]
  rw [Nat.add_comm 1, List.drop_succ_cons, List.drop_replicate]
  rfl
theorem row_own {W : World} {base g k cap : Nat} {xs : List Nat} (h : W.ownsRow base 5 1 (.slice (some ⟨g, 0, none⟩) k cap) k (byV xs)) : RowB W (some ⟨g, 0, none⟩) cap xs := by
  refine ⟨fun e => (by cases e), fun ad e j u hu => ?_⟩
  cases e
  rw [add_at]
  exact own_cell h hu
theorem own_of {W : World} {base g k : Nat} {e : TypeId} {xs : List Value} (h1 : base ≤ g) (h2 : xs.length = k) (h : W.heap[g]? = some (.cells xs.toArray e (0, 0))) (hk : k ≤ 1048576 := by omega) : W.ownsRow base e 1 (.slice (some ⟨g, 0, none⟩) k k) k xs :=
  ⟨by rw [h2, Nat.mul_one], .inr ⟨g, k, _, rfl, h1, h, Nat.le_refl _, by unfold maxLen; omega, by simp [h2], by rw [Nat.mul_one, List.take_of_length_le (by simp; omega)]⟩⟩
theorem own_full {W : World} {base g k : Nat} {e : TypeId} {xs : List Value} (h : W.ownsRow base e 1 (.slice (some ⟨g, 0, none⟩) k k) k xs) : W.heap[g]? = some (.cells xs.toArray e (0, 0)) := by
  obtain ⟨cur, _, h3, _, _, h6, h7⟩ := own_heap h
  rw [h3, ← h7, List.take_of_length_le (by rw [Array.length_toList]; omega)]
theorem zer15_get : zer15[0]? = some (.int .u8 0) := rfl
theorem made_one (z : Value) (n : Nat) : (madeCells #[z] n).toList = List.replicate n z := by
  rw [List.eq_replicate_iff]
  refine ⟨by simp [madeCells], fun b hb => ?_⟩
  simp only [madeCells, List.size_toArray, List.length_cons, List.length_nil, Nat.zero_add, Nat.mod_one, Array.toList_map, List.mem_map] at hb
  obtain ⟨_, _, rfl⟩ := hb
  rfl
theorem made15 : (madeCells (Value.int .u8 0).cells (15 * 1)).toList = zer15 := made_one (.int .u8 0) 15
set_option maxRecDepth 100000 in
set_option maxHeartbeats 3200000 in
theorem cell_Make (k n : Nat) (a : Option Addr) (c : Nat) (xs : List Nat) (w : World) (hk : k < 65536) (hn : n ≤ 2147483648) (h : RowB w a c xs) (hl : xs.length ≤ 14) (hx : ∀ x ∈ xs, x < 256) :
    Calls Try.prog 25 #[.int .i64 k, .int .i64 n, .slice a xs.length c] w fun e w' => ∃ v, e = .returned (.tuple #[v, .int .i64 0]) ∧ Below w.heap.size w w' ∧ w'.ownsRow w.heap.size 5 1 v 17 (byV (cellN k n xs)) := by
  have hout : outB k n = false := outB_no.2 ⟨by omega, by omega, by omega, by omega⟩
  have HO := Lib.hid hout
  have HR := Lib.hid h
  have HX := Lib.hid hx
  have HBX := Lib.hid (bodyN_lt hl hx)
  have HBL := Lib.hid (bodyN_len hl)
  have HSP := Lib.hid (body_splice hl)
  have HCN := Lib.hid (show byV (cellN k n xs) = byV (bodyN xs) ++ byV (csumN k n (bodyN xs)) by unfold cellN; exact byV_append _ _)
  have HSum := Lib.hid fun (a : Option Addr) (c : Nat) w h => cell_sum k n a c (bodyN xs) w hk hn h (by rw [bodyN_len hl]; omega) (bodyN_lt hl hx)
  rw [bodyN_len hl] at HSum
  obtain ⟨L, hL⟩ : ∃ L, L = xs.length := ⟨_, rfl⟩
  have HL := Lib.hid hL
  rw [← hL] at hl HSP ⊢
  clear hout h hx hL
  obtain ⟨i0, hi, hz0, hz1, hz2⟩ := info_parts byte_info
  have hu : Try.prog.underlying 31 = some (.slice 5) := by kernel_rfl
  have fw : IntKind.u8.wrap (L : Int) = (L : Int) := by
    simp [IntKind.wrap, IntKind.signed, IntKind.bits]; omega
  have d1 : decide (14 < (L : Int)) = false := decide_eq_false (by omega)
  go_enter Try.func25, Try.ntmps25
  go_wp2_with fail
  refine (cell_out _ _ _).mono ?_
  rintro e w' ⟨rfl, rfl⟩
  rw [HO.out]
  clear HO
  go_wp2_with (first
    | (at_make; refine wpList_make_full _ rfl _ _ 31 rfl w.heap.size 5 i0 (.int .u8 0) 1 hu hi hz0 hz1 .i64 .i64 15 15 15 rfl rfl rfl rfl (by rw [hz2]; omega) (by unfold maxLen; omega) (Nat.le_refl _) ?_
       intro w1 hown1 hg1
       rw [made15] at hown1
       have k0 : w1.cell? ⟨w.heap.size, 0, none⟩ = some (.int .u8 0) := own_cell hown1 zer15_get
       have f0 := own_frozen hown1 0
       have HG := Lib.hid (own_full (own_set hown1 (show 0 < 15 by omega) (.int .u8 (L : Nat))))
       have HB0 := Lib.hid (((Below.refl w.heap.size w).grown hg1 (Nat.le_refl _) (fun j hj => by cases hj)).setCell (p := ⟨w.heap.size, 0, none⟩) (Nat.le_refl _) (.int .u8 (L : Nat)))
       have HRB := Lib.hid (HR.out.below HB0.out (Nat.le_refl _)))
    | (with_reducible refine wpList_copy_splice (o := ⟨some 24, _, _, _, _, _⟩) rfl _ _ 31 31 rfl 5 hu (by rw [hi]; simp [hz1]) (some ⟨w.heap.size, 1, none⟩) a 14 14 L c rfl rfl w.heap.size 1 (zer15.set 0 (.int .u8 (L : Nat))) 5 HG.out (byV xs) ?cn ?cp ?cf (byV_one xs) w.heap.size w HB0.out (Nat.le_refl _) ?_))
  case cn => rw [byV_len, ← HL.out]; exact (Nat.min_eq_left hl).symm
  case cf => rw [byV_len, ← HL.out]; simp [zer15]; omega
  case cp =>
    intro h0
    try refine ⟨rfl, ?_⟩
    rcases a with _ | ad
    · have := (HRB.out.1 rfl).1; rw [this] at h0; simp [byV] at h0
    · exact ⟨ad, rfl, fun j u hu => HRB.out.2 ad rfl j u hu⟩
  intro w2 hcg hb2
  have hcg2 := hcg.out
  rw [HSP.out] at hcg2
  have hown2 : w2.ownsRow w.heap.size 5 1 (.slice (some ⟨w.heap.size, 0, none⟩) 15 15) 15 (byV (bodyN xs)) := own_of (Nat.le_refl _) (by rw [byV_len]; exact HBL.out) hcg2
  clear hcg hcg2 hown1 hg1 k0 f0 HG HB0 HRB
  go_wp2_with fail
  refine (HSum.out _ _ _ (row_own hown2)).mono ?_
  rintro e w3 ⟨v3, rfl, hb3, hr3⟩
  have hl3 := csumN_len k n (bodyN xs)
  obtain ⟨a3, c3, rfl, h3, _⟩ : ∃ a c, v3 = .slice a (csumN k n (bodyN xs)).length c ∧ RowB w3 a c (csumN k n (bodyN xs)) ∧ ∀ ad, a = some ad → ∃ g, ad = ⟨g, 0, none⟩ := own_rowB (by rw [hl3]; exact hr3)
  rw [hl3]
  have hown3 := own_keep hown2 hb3
  have hb4 := hb2.trans (hb3.mono hb2.size)
  rcases a3 with _ | ad
  · have := (h3.1 rfl).1
    rw [this] at hl3; cases hl3
  · have hcell := h3.2 ad rfl
    have z4 := hb4.size
    clear hr3 h3 hown2 hb2 hb3
    go_wp2_with (first
      | (at_builtin; refine wpList_append_own _ rfl _ _ 31 rfl w.heap.size 5 i0 (.int .u8 0) 1 1 hu hi hz0 hz1 hz2 rfl (by decide) _ _ _ rfl hown3 ad 2 c3 (byV (csumN k n (bodyN xs))) rfl (by rw [byV_len, hl3]) hcell (byV_one _) (by unfold maxLen; omega) (by omega) z4 ?_; intro v' w5 hown' hg2 hnil2))
    go_ret2
    refine ⟨v', rfl, hb4.grown hg2 z4 (fun j hj => (hown3.lt j hj).1), ?_⟩
    rw [HCN.out]
    exact hown'
end Go.Proofs.Ytkodhpjmmiapaaa

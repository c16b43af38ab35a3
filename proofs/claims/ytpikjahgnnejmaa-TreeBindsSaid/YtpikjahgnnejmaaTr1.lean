/- tree: leafText, pairText, long, wrong; the reference's LeafsCheck. -/
import Derived.Test.YtpikjahgnnejmaaRowRB
namespace Go.Proofs.Ytpikjahgnnejmaa
open Go.RowKit
set_option linter.unusedVariables false
set_option linter.unusedSimpArgs false
set_option maxHeartbeats 1600000 in
theorem tree_leafText (a : Option Addr) (c : Nat) (xs : List Nat) (w : World) (h : RowB w a c xs) (hl : xs.length ≤ 4096) :
    Calls Try.prog 55 #[.slice a xs.length c] w fun e w' => ∃ v, e = .returned v ∧ Below w.heap.size w w' ∧ w'.ownsRow w.heap.size 5 1 v (xs.length + 1) (byV (0 :: xs)) := by
  obtain ⟨L, hL⟩ : ∃ L, L = xs.length := ⟨_, rfl⟩
  have HL := Lib.hid hL
  rw [← hL] at hl ⊢
  clear hL
  go_enter Try.func55, Try.ntmps55
  go_wp2_with fail
  have hB0 : Below w.heap.size w (w.alloc (.cells #[.int .u8 0] 5)) := (Below.refl _ _).alloc (Nat.le_refl _) _
  have hB1 : Below w.heap.size w ((w.alloc (.cells #[.int .u8 0] 5)).alloc (.cells #[.slice (some ⟨w.heap.size, 0, none⟩) 1 1, .slice a L c] 26)) := hB0.alloc (by simp) _
  have r2 := h.below hB1 (Nat.le_refl _)
  have r1 : RowB ((w.alloc (.cells #[.int .u8 0] 5)).alloc (.cells #[.slice (some ⟨w.heap.size, 0, none⟩) 1 1, .slice a L c] 26)) (some ⟨w.heap.size, 0, none⟩) 1 [0] := by
    refine ⟨(fun e => by cases e), fun ad e j u hu => ?_⟩
    cases e
    have hj : j = 0 := by
      have := (List.getElem?_eq_some_iff.1 hu).1
      simp [byV] at this; omega
    subst hj
    simp [byV] at hu
    subst hu
    simp [Addr.add, go_sem]
  have hx := HL.out
  subst hx
  refine (slices_Concat (w.heap.size + 1) (some ⟨w.heap.size, 0, none⟩) a 1 c [0] xs _ (by simp) (by simp [go_sem]) (by simp [go_sem]) r1 r2 (by simp) (by simp; omega)).mono ?_
  rintro e w2 ⟨v, rfl, hb2, hr2⟩
  go_wp2
  go_ret
  refine ⟨v, rfl, ?_, ?_⟩
  · exact below_two hB1 hb2
  · have h3 := own_lower hr2 (show w.heap.size ≤ _ by simp; omega)
    rw [show ([0] : List Nat).length + xs.length = xs.length + 1 by simp; omega] at h3
    exact h3
/-- the text of two nodes -/
def pairN (a b : Nat) : List Nat := [1, a % 256, a / 256 % 256, b % 256, b / 256 % 256]
set_option maxHeartbeats 1600000 in
theorem tree_pairText (a b : Nat) (w : World) (ha : a < 4294967296) (hb : b < 4294967296) :
    Calls Try.prog 59 #[.int .u32 a, .int .u32 b] w fun e w' => e = .returned (.slice (some ⟨w.heap.size, 0, none⟩) 5 5) ∧ w' = w.alloc (.cells #[.int .u8 1, .int .u8 ((a % 256 : Nat) : Int), .int .u8 ((a / 256 % 256 : Nat) : Int), .int .u8 ((b % 256 : Nat) : Int), .int .u8 ((b / 256 % 256 : Nat) : Int)] 5) := by
  go_enter Try.func59, Try.ntmps59
  go_wp2
  refine bodyPost_ret (v := .slice (some ⟨w.heap.size, 0, none⟩) 5 5) ?_ rfl ?_
  · go_simp; first | rfl | kernel_rfl
  · exact ⟨rfl, rfl⟩
def longB (xs : List Nat) : Bool := decide (4096 ≤ xs.length)
theorem tree_long (a : Option Addr) (c L : Nat) (w : World) (hl : L ≤ 9223372036854775807) :
    Calls Try.prog 54 #[.slice a L c] w fun e w' => e = .returned (.bool (decide (4096 ≤ L))) ∧ w = w' := by
  obtain ⟨q, hq⟩ : ∃ q, decide (4096 ≤ L) = q := ⟨_, rfl⟩
  have hq2 : decide ((4096 : Int) ≤ (L : Int)) = q := by rw [← hq]; exact decide_eq_decide.2 (by omega)
  rw [hq]
  clear hq
  go_enter Try.func54, Try.ntmps54
  go_wp2
  go_ret
  exact ⟨rfl, rfl⟩
/-- what is wrong with leafs -/
def leafsE (z : List (List Nat)) : Nat := if z.length = 0 then 5 else if 64 < z.length ∨ z.any longB = true then 1 else 0
set_option maxHeartbeats 1600000 in
theorem tree_wrong (a : Option Addr) (len cap : Nat) (z : List (List Nat)) (w : World) (h : IsMatB w a len cap z) :
    Calls Try.prog 38 #[.slice a len cap] w fun e w' => e = .returned (.int .i64 (leafsE z : Nat)) ∧ Below w.heap.size w w' := by
  obtain ⟨hL, hl, ⟨R, hR⟩, hz⟩ := h
  have HC := Lib.hid (fun W (hb : Below w.heap.size w W) => contains_rowsB 54 #[] (fun args w => by kernel_rfl) longB a cap R z W len (hR.below hb (Nat.le_refl _)) hL hl (fun W2 a' c' xs hb2 hx hr => (tree_long a' c' xs.length W2 (hz xs hx).1).mono (by rintro e w' ⟨rfl, rfl⟩; exact ⟨rfl, Below.refl _ _⟩)))
  obtain ⟨q, hq⟩ : ∃ q, z.any longB = q := ⟨_, rfl⟩
  unfold leafsE
  rw [hq] at HC ⊢
  rw [hL]
  clear hq hR hz hL
  have ret : ∀ (n : Int), Value.int .i64 n = Value.int .i64 n := fun _ => rfl
  by_cases h0 : len = 0
  · have e1 : ((len : Int) == 0) = true := by simpa using h0
    rw [if_pos h0]
    clear h0
    go_enter Try.func38, Try.ntmps38
    go_wp2
    refine bodyPost_ret (v := .int .i64 5) ?_ rfl ?_
    · go_simp; first | rfl | kernel_rfl
    · exact ⟨rfl, Below.refl _ _⟩
  · have e1 : ((len : Int) == 0) = false := beq_eq_false_iff_ne.2 (by omega)
    rw [if_neg h0]
    clear h0
    by_cases h1 : 64 < len
    · have e2 : decide ((64 : Int) < (len : Int)) = true := decide_eq_true (by omega)
      rw [if_pos (.inl h1)]
      clear h1
      go_enter Try.func38, Try.ntmps38
      go_wp2
      refine bodyPost_ret (v := .int .i64 1) ?_ rfl ?_
      · go_simp; first | rfl | kernel_rfl
      · exact ⟨rfl, Below.refl _ _⟩
    · have e2 : ¬ (64 : Int) < (len : Int) := by omega
      cases q with
      | true =>
        rw [if_pos (.inr rfl)]
        go_enter Try.func38, Try.ntmps38
        go_wp2_with fail
        refine (HC.out _ (Below.refl _ _)).mono ?_
        rintro e w' ⟨rfl, hb⟩
        go_wp2
        refine bodyPost_ret (v := .int .i64 1) ?_ rfl ?_
        · go_simp; first | rfl | kernel_rfl
        · exact ⟨rfl, hb⟩
      | false =>
        rw [if_neg (by rintro (h | h); omega; cases h)]
        go_enter Try.func38, Try.ntmps38
        go_wp2_with fail
        refine (HC.out _ (Below.refl _ _)).mono ?_
        rintro e w' ⟨rfl, hb⟩
        go_wp2
        refine bodyPost_ret (v := .int .i64 0) ?_ rfl ?_
        · go_simp; first | rfl | kernel_rfl
        · exact ⟨rfl, hb⟩
set_option maxHeartbeats 1600000 in
theorem ref_LeafsCheck (a : Option Addr) (len cap : Nat) (z : List (List Nat)) (w : World) (h : IsMatB w a len cap z) :
    Calls Try.prog 23 #[.slice a len cap] w fun e w' => e = .returned (.int .i64 (leafsE z : Nat)) ∧ w = w' := by
  obtain ⟨hL, hl, ⟨R, hR⟩, hz⟩ := h
  have HR := Lib.hid hR
  have HL := Lib.hid hL
  have HZ := Lib.hid hz
  obtain ⟨E, hE⟩ : ∃ E, E = leafsE z := ⟨_, rfl⟩
  rw [← hE]
  have HE := Lib.hid hE
  clear hR hz hE
  by_cases h0 : len = 0
  · have e1 : ((len : Int) == 0) = true := by simpa using h0
    have e9 : E = 5 := by rw [HE.out]; unfold leafsE; rw [if_pos (by omega)]
    subst e9
    clear h0 hL HL
    go_enter Try.func23, Try.ntmps23
    go_wp2
    refine bodyPost_ret (v := .int .i64 5) ?_ rfl ?_
    · go_simp; first | rfl | kernel_rfl
    · exact ⟨rfl, rfl⟩
  · have e1 : ((len : Int) == 0) = false := beq_eq_false_iff_ne.2 (by omega)
    by_cases h1 : 64 < len
    · have e2 : decide ((64 : Int) < (len : Int)) = true := decide_eq_true (by omega)
      have e9 : E = 1 := by rw [HE.out]; unfold leafsE; rw [if_neg (by omega), if_pos (.inl (by omega))]
      subst e9
      clear h0 h1 hL HL
      go_enter Try.func23, Try.ntmps23
      go_wp2
      refine bodyPost_ret (v := .int .i64 1) ?_ rfl ?_
      · go_simp; first | rfl | kernel_rfl
      · exact ⟨rfl, rfl⟩
    · have e2 : ¬ (64 : Int) < (len : Int) := by omega
      have hl2 : len ≤ 64 := by omega
      clear h0 h1 hL
      go_enter Try.func23, Try.ntmps23
      go_wp2_with fail
      go_loop [13] (fun i => ∃ I : Nat, i = .int .i64 (I : Int) ∧ I ≤ len ∧ Hid (∀ (j : Nat) x, j < I → z[j]? = some x → longB x = false)) (fun i => len - (intOf i).toNat)
      case atStart => exact ⟨0, rfl, by omega, Lib.hid (fun j x h => absurd h (Nat.not_lt_zero _))⟩
      case round =>
        obtain ⟨I, rfl, hI, HA⟩ := hrel
        by_cases hlt : I < len
        · obtain ⟨x, hx⟩ : ∃ x, z[I]? = some x := ⟨_, List.getElem?_eq_getElem (by rw [HL.out]; exact hlt)⟩
          have hxl := (HZ.out x (List.mem_of_getElem? hx)).1
          obtain ⟨b, o, rfl, hc⟩ := HR.out.shape (by rw [HL.out]; omega)
          have kx := hc I x hx
          have HX := Lib.hid hx
          clear hx hc
          by_cases hq : 4096 ≤ x.length
          · have e3 : ¬ (x.length : Int) ≤ 4095 := by omega
            have e4 : (4095 : Int) < (x.length : Int) := by omega
            have e9 : E = 1 := by
              rw [HE.out]; unfold leafsE
              rw [if_neg (by rw [HL.out]; omega), if_pos (.inr (List.any_eq_true.2 ⟨x, List.mem_of_getElem? HX.out, decide_eq_true hq⟩))]
            subst e9
            go_wp2
            refine bodyPost_ret (v := .int .i64 1) ?_ rfl ?_
            · go_simp; first | rfl | kernel_rfl
            · exact ⟨rfl, rfl⟩
          · have e4 : ¬ (4095 : Int) < (x.length : Int) := by omega
            go_wp2_with fail
            go_round
            case rel =>
              refine ⟨I + 1, by go_num, by omega, Lib.hid (fun j y hj hy => ?_)⟩
              by_cases e : j = I
              · subst e
                have := HX.out
                rw [hy] at this
                rw [Option.some.inj this]; exact decide_eq_false hq
              · exact HA.out j y (by omega) hy
            case measure => simp [intOf]; omega
        · have e9 : E = 0 := by
            rw [HE.out]; unfold leafsE
            rw [if_neg (by rw [HL.out]; intro h; subst h; simp at e1), if_neg]
            rw [HL.out]
            rintro (h3 | h3)
            · omega
            · obtain ⟨x, hm, hpx⟩ := List.any_eq_true.1 h3
              obtain ⟨j, hj⟩ := List.getElem?_of_mem hm
              have := HA.out j x (by have := (List.getElem?_eq_some_iff.1 hj).1; have := HL.out; omega) hj
              rw [hpx] at this; cases this
          subst e9
          go_wp2
          refine bodyPost_ret (v := .int .i64 0) ?_ rfl ?_
          · go_simp; first | rfl | kernel_rfl
          · exact ⟨rfl, rfl⟩
end Go.Proofs.Ytpikjahgnnejmaa

/- The contracts of walsh.anf and walsh.Anf. -/
import Derived.Test.YtabhmhojlhagcaaDoorAnfM
import Derived.Test.YtabhmhojlhagcaaDoorWWalP
namespace Go.Proofs.YtabhmhojlhagcaaDoor
open Go.RowKit
set_option linter.unusedVariables false
set_option linter.unusedSimpArgs false
theorem anf_c (w : World) (a b : Int) (h1 : -1073741824 ≤ a) (h2 : a ≤ 1073741824) (h3 : -1073741824 ≤ b) (h4 : b ≤ 1073741824) :
    Calls Tryd.prog 16 #[.int .i64 a, .int .i64 b] w fun e w' => e = .returned (.tuple #[.int .i64 (pA a b), .int .i64 (qA a b)]) ∧ w = w' := by
  have hq : qA a b = bits .xor .i64 a b := rfl
  have hp : pA a b = a := rfl
  rw [hp, hq]
  obtain ⟨v, hv⟩ : ∃ v, bits .xor .i64 a b = v := ⟨_, rfl⟩
  rw [hv]
  clear hp hq
  go_enter Tryd.func16, Tryd.ntmps16
  go_wp2
  go_ret2
  exact ⟨rfl, rfl⟩
theorem or_val {b : Int} {W I : Nat} (h01 : b = 0 ∨ b = 1) (hI : I < 32) (hW : W < 2 ^ I) : bits .or .u32 (W : Int) (b * 2 ^ I % 4294967296) = ((W ||| b.toNat * 2 ^ I : Nat) : Int) := by
  have hP : 2 ^ I ≤ 2147483648 := Nat.pow_le_pow_right (n := 2) (by omega) (show I ≤ 31 by omega)
  have e1 : (2 : Int) ^ I = ((2 ^ I : Nat) : Int) := by rw [Int.natCast_pow]; rfl
  rw [e1]
  generalize 2 ^ I = P at *
  rcases h01 with rfl | rfl
  · rw [show (0 : Int) * (P : Int) % 4294967296 = ((0 : Nat) : Int) by omega, u32_or_nat W 0 (by omega) (by omega)]; simp
  · rw [show (1 : Int) * (P : Int) % 4294967296 = ((P : Nat) : Int) by omega, u32_or_nat W P (by omega) (by omega)]; simp
set_option maxRecDepth 100000 in
set_option maxHeartbeats 3200000 in
theorem walsh_anf (n f : Nat) (w : World) (hn : n ≤ 5) (hf : f < 2 ^ 2 ^ n) :
    Calls Tryd.prog 12 #[.int .i64 n, .int .u32 f] w fun e w' => e = .returned (.int .u32 (anfN n f)) ∧ Below w.heap.size w w' := by
  have hN : 2 ^ n ≤ 32 := Nat.pow_le_pow_right (n := 2) (by omega) hn
  have hf2 : f < 4294967296 := Nat.lt_of_lt_of_le hf (Nat.le_trans (Nat.pow_le_pow_right (n := 2) (by omega) hN) (by omega))
  have hsz := pow2_n hn
  have HAN := Lib.hid (show anfN n f = wordN (anfI n (bitI f)) (2 ^ n) from rfl)
  obtain ⟨N, hNe⟩ : ∃ N, N = 2 ^ n := ⟨_, rfl⟩
  rw [← hNe] at hN hsz HAN
  obtain ⟨AN, hAN⟩ : ∃ A, anfN n f = A := ⟨_, rfl⟩
  rw [hAN] at HAN ⊢
  have HN := Lib.hid hNe
  clear hNe hf hAN
  obtain ⟨i0, hi, hz0, hz1, hz2⟩ := info_parts int_info
  have hu : Tryd.prog.underlying 23 = some (.slice 3) := by kernel_rfl
  go_enter Tryd.func12, Tryd.ntmps12
  go_wp2_with (first
    | (at_make; refine wpList_make_full _ rfl _ _ 23 rfl w.heap.size 3 i0 (.int .i64 0) 1 hu hi hz0 hz1 .i64 .i64 (wrap64 (2 ^ n)) (wrap64 (2 ^ n)) N rfl rfl hsz hsz (by rw [hz2]; omega) (by unfold maxLen; omega) (Nat.le_refl _) ?_
       intro w1 hown1 hg1))
  rw [Nat.mul_one, show (Value.int IntKind.i64 0).cells = #[Value.int .i64 0] from rfl, made_one, show List.replicate N (Value.int .i64 0) = inV (fillTo (bitI f) N 0) by rw [fillTo_zero]; simp [inV]] at hown1
  have hb1 : Below w.heap.size w w1 := (Below.refl _ _).grown hg1 (Nat.le_refl _) (fun j hj => by cases hj)
  clear hg1
  go_loopw [15] (fun x wr => ∃ X : Nat, x = .int .i64 X ∧ X ≤ N ∧ Below w.heap.size w wr ∧ wr.ownsRow w.heap.size 3 1 (.slice (some ⟨w.heap.size, 0, none⟩) N N) N (inV (fillTo (bitI f) N X))) (fun x _ => N - (intOf x).toNat)
  case atStart => exact ⟨0, rfl, by omega, hb1, hown1⟩
  case round =>
    obtain ⟨X, rfl, hX, hb, hr⟩ := hrel
    by_cases hlt : X < N
    · have kx := own_cell hr (i := X) (u := .int .i64 0) (by simp [inV, fillTo_get (bitI f) hlt (Nat.le_refl X)])
      have fx := own_frozen hr X
      have hr2 := own_set hr hlt (.int .i64 (bitI f X))
      rw [← inV_set, fillTo_set _ hlt] at hr2
      have hv : wrap64 (bits .and .u32 ((f : Int) / 2 ^ X) 1) = bitI f X := bit_val X hf2
      obtain ⟨v, hve⟩ : ∃ v, bitI f X = v := ⟨_, rfl⟩
      rw [hve] at hv hr2
      clear hr hve
      go_wp2
      go_round
      case rel => exact ⟨X + 1, by go_num, by omega, hb.setCell (p := ⟨w.heap.size, X, none⟩) (Nat.le_refl _) _, hr2⟩
      case measure => simp [intOf]; omega
    · obtain rfl : X = N := by omega
      rw [fillTo_all] at hr
      go_wp2_with fail
      refine (walsh_fly pA qA 16 (enters_of Tryd.func16 (by kernel_rfl) rfl) n X w.heap.size X w.heap.size _ _ hn HN.out (by simp) anf_c (by rw [HN.out]; exact anf_bound hn _ (bitI_cases f)) hr).mono ?_
      rintro e w2 ⟨⟨v, rfl⟩, hb2, hz2', hr2⟩
      have hb3 := hb.trans hb2
      have e := fly_anf hn _ (bitI_cases f)
      rw [← HN.out] at e
      rw [e] at hr2
      have hz0' : w.heap.size ≤ w2.heap.size := hb3.size
      clear hr hb2 hb e
      go_wp2
      go_loopw [7, 32] (fun g x wr => ∃ I : Nat, x = .int .i64 I ∧ I ≤ X ∧ g = .int .u32 ((wordN (anfI n (bitI f)) I : Nat) : Int) ∧ w2 = wr) (fun _ x _ => X - (intOf x).toNat)
      case atStart => exact ⟨0, rfl, by omega, rfl, rfl⟩
      case round =>
        obtain ⟨I, rfl, hI, rfl, rfl⟩ := hrel
        by_cases hlt : I < X
        · have hlt2 := wordN_lt (anfI_cases n (bitI f)) I
          have hor := wordN_or (anfI_cases n (bitI f)) I
          have kx := own_cell hr2 (i := I) (u := .int .i64 (anfI n (bitI f) I)) (by rw [inV, List.getElem?_map, List.getElem?_map, List.getElem?_range hlt]; rfl)
          have h01 := anfI_cases n (bitI f) I
          obtain ⟨b, hb⟩ : ∃ b, anfI n (bitI f) I = b := ⟨_, rfl⟩
          rw [hb] at hor kx h01
          obtain ⟨W, hW⟩ : ∃ W, wordN (anfI n (bitI f)) I = W := ⟨_, rfl⟩
          rw [hW] at hlt2 hor ⊢
          have HOR := Lib.hid hor
          have HLT2 := Lib.hid hlt2
          clear hb hW hor hlt2
          have hval := or_val (b := b) h01 (I := I) (by omega) HLT2.out
          obtain ⟨V, hV⟩ : ∃ V, W ||| b.toNat * 2 ^ I = V := ⟨_, rfl⟩
          rw [hV] at hval
          have HV := Lib.hid hV
          clear hV
          go_wp2
          go_round
          case rel => exact ⟨I + 1, by go_num, by omega, by rw [← HOR.out, HV.out], trivial⟩
          case measure => simp [intOf]; omega
        · obtain rfl : I = X := by omega
          rw [← HAN.out]
          go_wp2
          go_ret
          exact ⟨rfl, hb3⟩
end Go.Proofs.YtabhmhojlhagcaaDoor

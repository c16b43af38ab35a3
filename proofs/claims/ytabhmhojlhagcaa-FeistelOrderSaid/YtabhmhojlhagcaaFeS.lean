/- Contracts of package feistel: seal, Seal. -/
import Derived.Test.YtabhmhojlhagcaaFeM
import Derived.Test.YtabhmhojlhagcaaBit64
namespace Go.Proofs.Ytabhmhojlhagcaa
open Go.RowKit
set_option linter.unusedVariables false
set_option linter.unusedSimpArgs false
theorem atN_cast {rows : List (List Int)} (h : Rnd rows) {r : List Int} (hr : r ∈ rows) {i : Nat} (hi : i < 16) : r[i]? = some ((atN r i : Nat) : Int) := by
  have hl := h.row r hr
  obtain ⟨v, hv⟩ : ∃ v, r[i]? = some v := ⟨_, List.getElem?_eq_getElem (by omega)⟩
  have := h.rng r hr v (List.mem_of_getElem? hv)
  unfold atN
  rw [List.getD_eq_getElem?_getD, hv]
  simp; omega
theorem sealP_next {rows : List (List Int)} {k : Nat} {r : List Int} (h : rows[k]? = some r) (lr : Nat × Nat) : sealP (rows.take (k + 1)) lr = stepF r (sealP (rows.take k) lr) := by
  unfold sealP
  rw [List.take_add_one, h, List.foldl_append]; rfl
set_option maxHeartbeats 1600000 in
theorem feistel_seal (a : Option Addr) (c : Nat) (R : Nat → Option Addr × Nat) (rows : List (List Int)) (x : Nat) (w : World) (L : Nat) (h : RowR w a c R rows) (hL : rows.length = L) (hr : Rnd rows) (hx : x < 256) :
    Calls Try.prog 32 #[.slice a L c, .int .i64 x] w fun e w' => e = .returned (.int .i64 (sealN rows x)) ∧ ∃ n, w' = w.drewN n := by
  have HR := Lib.hid h
  have HL := Lib.hid hL
  have HN := Lib.hid hr
  have HQ : Hid (∀ lr, lr = sealP rows (prN x) → ((lr.1 * 16 + lr.2 : Nat) : Int) = ((sealN rows x : Nat) : Int)) := Lib.hid (by rintro lr rfl; rfl)
  have l64 := hr.len
  rw [hL] at l64
  have H0 := Lib.hid (In16.pr hx)
  clear h hL hr
  go_enter Try.func32, Try.ntmps32
  go_wp2
  go_loopw [5, 6, 15] (fun lv rv i wr => ∃ (I l r : Nat), i = .int .i64 I ∧ lv = .int .i64 l ∧ rv = .int .i64 r ∧ I ≤ L ∧ l < 16 ∧ r < 16 ∧ Hid ((l, r) = sealP (rows.take I) (prN x)) ∧ ∃ n, wr = w.drewN n) (fun _ _ i _ => L - (intOf i).toNat)
  case atStart => exact ⟨0, x / 16, x % 16, rfl, by go_num, by go_num, Nat.zero_le _, H0.out.1, H0.out.2, Lib.hid rfl, 0, rfl⟩
  case round =>
    obtain ⟨I, l, r, rfl, rfl, rfl, hI, hl, hr, HP, n, rfl⟩ := hrel
    by_cases hlt : I < L
    · obtain ⟨row, hrow⟩ : ∃ r, rows[I]? = some r := ⟨_, List.getElem?_eq_getElem (by rw [HL.out]; exact hlt)⟩
      have hm := List.mem_of_getElem? hrow
      obtain ⟨b, o, rfl, hc⟩ := HR.out.shape (by rw [HL.out]; omega)
      have kx := hc I row hrow
      have h16 := HN.out.row row hm
      obtain ⟨b2, o2, hb2, hc2⟩ := (HR.out.row I row hrow).shape (by omega)
      rw [hb2, h16] at kx
      have kr := hc2 r _ (atN_cast HN.out hm hr)
      have hs := sealP_next hrow (prN x)
      rw [← HP.out] at hs
      have hv := atN_lt HN.out hm r
      have HS : Hid ((r, l ^^^ atN row r) = sealP (rows.take (I + 1)) (prN x)) := Lib.hid hs.symm
      clear hs hc hrow hm hc2 hb2 h16
      obtain ⟨v, hvv⟩ : ∃ v, atN row r = v := ⟨_, rfl⟩
      rw [hvv] at kr hv HS
      clear hvv
      have hx2 := i64_xor_nat l v (by omega) (by omega)
      have hxl : l ^^^ v < 16 := Nat.xor_lt_two_pow (n := 4) hl hv
      have i1 : (0 : Int) ≤ I := by omega
      have i2 : (I : Int) < L := by omega
      have i3 : (0 : Int) ≤ r := by omega
      have i4 : (r : Int) < 16 := by omega
      go_wp2_with fail
      go_quiet (fail)
      go_wp2
      go_roundw
      case rel => exact ⟨I + 1, r, l ^^^ v, by go_num, rfl, rfl, by omega, hr, hxl, HS, _, by first | rfl | (simp; done) | exact (World.drewN_drewN _ _ _)⟩
      case measure => simp [intOf]; omega
    · obtain rfl : I = L := by omega
      have HT := Lib.hid (HQ.out (l, r) (by rw [HP.out, List.take_of_length_le (by rw [HL.out]; exact Nat.le_refl _)]))
      go_wp2
      go_ret
      exact ⟨ret_int (by rw [← HT.out]; simp), n, rfl⟩
end Go.Proofs.Ytabhmhojlhagcaa

/- The contracts of lockwrightref.at, trimmed, inverse, left (printed by gen/wfldr.py). -/
import Derived.Test.YtkkefbjmdbjbhaaFldM
import Derived.Test.YtkkefbjmdbjbhaaPw
import Derived.Test.YtkkefbjmdbjbhaaRefIs
namespace Go.Proofs.Ytkkefbjmdbjbhaa
open Go.RowKit
set_option linter.unusedVariables false
set_option linter.unusedSimpArgs false
/-- where the outer loop of left stands -/
structure LInv (p : Int) (a b R : List Int) (K : Nat) : Prop where
  len : R.length = a.length
  rng : ∀ x ∈ R, 0 ≤ x ∧ x < p
  zer : ∀ j, K ≤ j → co R j = 0
  cg : Cg p (co b) (co a) (co R)
theorem LInv.init {p : Int} {a b : List Int} (ha : ∀ x ∈ a, 0 ≤ x ∧ x < p) : LInv p a b a a.length := ⟨rfl, ha, fun j hj => co_out hj, Cg.refl _ _ _⟩
theorem conv_one_at (B : Nat → Int) (k : Int) (up i : Nat) : conv (fun j => if j = up then k else 0) B i = if up ≤ i then k * B (i - up) else 0 := by
  have e : (fun j => if j = up then k else 0) = fun j => k * (if up ≤ j then co [1] (j - up) else 0) := by
    funext j
    by_cases h : up ≤ j
    · by_cases h2 : j = up
      · subst h2; simp [co]
      · rw [if_neg h2, if_pos h]
        obtain ⟨d, hd⟩ : ∃ d, j - up = d + 1 := ⟨j - up - 1, by omega⟩
        rw [hd]; simp [co]
    · rw [if_neg (by omega), if_neg h, Int.mul_zero]
  rw [e, conv_mul, conv_shift]
  split <;> simp
theorem co_plusTo' {p : Int} {a b : List Int} {k : Int} {up N I i : Nat} (h : i < N) : co (plusTo p a b k up N I) i = if up ≤ i ∧ i < up + I then (co a i + k * co b (i - up)) % p else co a i := by
  unfold co
  rw [List.getD_eq_getElem?_getD, plusTo_get _ _ _ _ _ _ _ _ h]; rfl
theorem LInv.step {p : Int} {a b R : List Int} {K Lb : Nat} (hp : 1 ≤ p) (h : LInv p a b R K) (hb : b.length = Lb) (h0 : 0 < Lb) (hk : Lb ≤ K) (hK : K ≤ a.length) {y : Int} (hy : y * co b (Lb - 1) % p = 1) {k : Int} (hkk : k = co R (K - 1) * y % p) :
    LInv p a b (plusTo p R b (-k) (K - Lb) a.length Lb) (K - 1) := by
  refine ⟨plusTo_len _ _ _ _ _ _ _, fun x hx => ?_, fun j hj => ?_, ?_⟩
  · obtain ⟨i, hi, rfl⟩ := List.mem_iff_getElem.1 hx
    rw [plusTo_len] at hi
    have e := plusTo_get p R b (-k) (K - Lb) a.length Lb i hi
    rw [List.getElem?_eq_getElem (by rw [plusTo_len]; exact hi)] at e
    rw [Option.some.inj e]
    split
    · exact ⟨Int.emod_nonneg _ (by omega), Int.emod_lt_of_pos _ (by omega)⟩
    · exact Go.Proofs.Ytkkefbjmdbjbhaa.co_rng hp h.rng i
  · by_cases hj2 : j < a.length
    · rw [co_plusTo' hj2]
      by_cases hj3 : j = K - 1
      · rw [if_pos (by omega), hj3, show K - 1 - (K - Lb) = Lb - 1 by omega, hkk]
        obtain ⟨x, hx⟩ : ∃ x, co R (K - 1) = x := ⟨_, rfl⟩
        obtain ⟨z, hz⟩ : ∃ x, co b (Lb - 1) = x := ⟨_, rfl⟩
        rw [hx]
        rw [hz] at hy ⊢
        have e1 := Int.mul_ediv_add_emod (x * y) p
        have e2 := Int.mul_ediv_add_emod (y * z) p
        rw [hy] at e2
        refine Int.emod_eq_zero_of_dvd ⟨x * y / p * z - x * (y * z / p), ?_⟩
        obtain ⟨t, ht⟩ : ∃ t, x * y / p = t := ⟨_, rfl⟩
        obtain ⟨u, hu⟩ : ∃ t, y * z / p = t := ⟨_, rfl⟩
        obtain ⟨v, hv⟩ : ∃ t, x * y % p = t := ⟨_, rfl⟩
        rw [ht, hv] at e1
        rw [hv, ht, hu]
        rw [hu] at e2
        grind
      · rw [if_neg (by omega)]; exact h.zer j (by omega)
    · exact co_out (by rw [plusTo_len]; omega)
  · refine h.cg.trans ⟨fun j => if j = K - Lb then k else 0, ⟨K - Lb + 1, fun i hi => if_neg (by omega)⟩, fun i => ?_⟩
    rw [conv_one_at]
    by_cases hi : i < a.length
    · rw [co_plusTo' hi]
      by_cases h1 : K - Lb ≤ i
      · rw [if_pos h1]
        by_cases h2 : i < K - Lb + Lb
        · rw [if_pos ⟨h1, h2⟩]
          have e := Int.mul_ediv_add_emod (co R i + -k * co b (i - (K - Lb))) p
          refine ⟨(co R i + -k * co b (i - (K - Lb))) / p, ?_⟩
          rw [Int.neg_mul] at e ⊢
          omega
        · rw [if_neg (by omega), co_out (a := b) (by omega)]; simp
      · rw [if_neg (by omega), if_neg h1]; simp
    · rw [co_out (a := R) (by rw [h.len]; omega), co_out (a := plusTo _ _ _ _ _ _ _) (by rw [plusTo_len]; omega)]
      split
      · rw [co_out (a := b) (by omega)]; simp
      · simp
theorem LInv.fin {p : Int} {a b R : List Int} {K : Nat} (hpr : prB p = true) (h2 : 2 ≤ p) (h : LInv p a b R K) (hb : Pl p b) (h0 : 0 < b.length) (hk : K < b.length) : (trimL R).length = 0 ↔ DvP p b a := by
  have hz : (trimL R).length = 0 ↔ ∀ j, co R j = 0 := by
    constructor
    · intro e j
      have := trimL_get R j
      rw [List.eq_nil_of_length_eq_zero e] at this
      exact this.symm.trans (by simp)
    · intro e
      rw [trimL_zero e]; rfl
  rw [hz]
  constructor
  · intro e
    have := h.cg
    rwa [show co R = fun _ => 0 from funext e] at this
  · intro hd
    obtain ⟨l1, l2⟩ := hb.lead (by omega) h0
    refine Cg.uniq' (m := b.length - 1) (by omega) (fun x hx => prime_cancel hpr h2 l1 l2 hx) (fun i hi => co_out (by omega)) (fun i hi => h.zer i (by omega)) (fun i _ => rfl) (Go.Proofs.Ytkkefbjmdbjbhaa.co_rng (by omega) h.rng) (fun i => ⟨Int.le_refl _, by omega⟩) (h.cg.symm.trans hd)
set_option maxHeartbeats 1600000 in
theorem ref_at (ad : Option Addr) (c L : Nat) (xs : List Int) (i : Nat) (x : Int) (w : World) (h : RowL w ad c xs) (hL : xs.length = L) (hx : xs[i]? = some x) (hl : L ≤ 1048576) :
    Calls Try.prog 46 #[.slice ad L c, .int .i64 i] w fun e w' => e = .returned (.int .i64 x) ∧ w = w' := by
  have hi : i < L := by rw [← hL]; exact (List.getElem?_eq_some_iff.1 hx).1
  obtain ⟨b, o, rfl, hc⟩ := h.shape (by omega)
  have kx := hc i x hx
  clear hc hx h hL
  go_enter Try.func46, Try.ntmps46
  go_wp2
  go_ret
  exact ⟨rfl, rfl⟩
set_option maxRecDepth 20000 in
set_option maxHeartbeats 1600000 in
theorem ref_trimmed (a : Option Addr) (c L : Nat) (xs : List Int) (w : World) (h : RowL w a c xs) (hL : xs.length = L) (hl : L ≤ 1048576) (hc : c ≤ maxLen) :
    Calls Try.prog 49 #[.slice a L c] w fun e w' => e = .returned (.slice a (trimL xs).length c) ∧ w = w' := by
  unfold maxLen at hc
  have hcl := h.2.2
  have HT := Lib.hid (trimL_take xs)
  have HR := Lib.hid h
  have HL := Lib.hid hL.symm
  rw [hL] at hcl
  obtain ⟨T, hTe⟩ : ∃ T, trimL xs = T := ⟨_, rfl⟩
  rw [hTe] at HT ⊢
  clear h hL hTe
  go_enter Try.func49, Try.ntmps49
  go_wp2
  go_loop [3] (fun s => ∃ K : Nat, s = .int .i64 K ∧ K ≤ L ∧ Hid (∀ j, K ≤ j → xs.getD j 0 = 0)) (fun s => (intOf s).toNat)
  case atStart => exact ⟨L, rfl, Nat.le_refl _, Lib.hid fun j hj => by rw [List.getD_eq_getElem?_getD, List.getElem?_eq_none (by rw [← HL.out]; exact hj)]; rfl⟩
  case round =>
    obtain ⟨K, rfl, hK, HZ⟩ := hrel
    by_cases h0 : K = 0
    · subst h0
      have HF := Lib.hid (HT.out 0 (Nat.zero_le _) HZ.out (fun h => absurd h (Nat.lt_irrefl 0)))
      go_wp2
      go_ret
      refine ⟨?_, rfl⟩
      rw [← HF.out]; rfl
    · obtain ⟨k, rfl⟩ : ∃ k, K = k + 1 := ⟨K - 1, by omega⟩
      clear h0
      obtain ⟨x, hx⟩ : ∃ x, xs[k]? = some x := ⟨_, List.getElem?_eq_getElem (by rw [← HL.out]; omega)⟩
      obtain ⟨b, o, rfl, hcell⟩ := HR.out.shape (by rw [← HL.out]; omega)
      have kx := hcell k x hx
      have HX := Lib.hid hx
      clear hcell hx
      by_cases hx0 : x = 0
      · subst hx0
        go_wp2
        go_round
        case rel =>
          refine ⟨k, by go_num, by omega, Lib.hid fun j hj => ?_⟩
          by_cases e : j = k
          · subst e; rw [List.getD_eq_getElem?_getD, HX.out]; rfl
          · exact HZ.out j (by omega)
        case measure => simp [intOf]
      · have e1 : (x == 0) = false := by simpa using hx0
        have HF : Hid (xs.take (k + 1) = T) := Lib.hid (HT.out (k + 1) (by rw [← HL.out]; omega) HZ.out fun _ => by rw [Nat.add_sub_cancel, List.getD_eq_getElem?_getD, HX.out]; exact hx0)
        have HFL : Hid (k + 1 = T.length) := Lib.hid (by rw [← HF.out, List.length_take, ← HL.out]; omega)
        clear hx0
        go_wp2
        go_ret
        refine ⟨?_, rfl⟩
        rw [← HFL.out]
        go_num
theorem inv_exp {p : Int} (h2 : 2 ≤ p) : 0 ≤ p - 2 + (p - 1) * ((2 : Int).tdiv p) ∧ p - 2 + (p - 1) * ((2 : Int).tdiv p) ≤ p ∧ ((2 : Int).tdiv p = 1 ∧ p = 2 ∨ (2 : Int).tdiv p = 0 ∧ 3 ≤ p) := by
  by_cases h : p = 2
  · subst h; exact ⟨by decide, by decide, .inl ⟨by decide, rfl⟩⟩
  · have e : (2 : Int).tdiv p = 0 := by rw [Int.tdiv_eq_ediv_of_nonneg (by omega)]; exact Int.ediv_eq_zero_of_lt (by omega) (by omega)
    rw [e]
    exact ⟨by omega, by omega, .inr ⟨rfl, by omega⟩⟩
def invE (x p : Int) : Int := pw x (if p = 2 then 1 else p - 2) p
theorem invE_ok {x p : Int} (hpr : prB p = true) (h2 : 2 ≤ p) (h0 : 0 < x) (h1 : x < p) : invE x p * x % p = 1 := by
  obtain ⟨P, rfl⟩ := Int.eq_ofNat_of_zero_le (show 0 ≤ p by omega)
  have hP : M.Pr P := by simpa using prB_true hpr
  unfold invE
  by_cases h : (P : Int) = 2
  · rw [if_pos h, h]
    obtain rfl : x = 1 := by omega
    rfl
  · rw [if_neg h]
    have hf := M.fermat_int1 hP (a := x) fun hd => by
      have := Int.le_of_dvd h0 hd
      omega
    unfold pw
    rw [Int.mul_emod, Int.emod_emod, ← Int.mul_emod, ← Int.pow_succ, show ((P : Int) - 2).toNat.succ = P - 1 by omega]
    exact hf
set_option maxHeartbeats 1600000 in
theorem ref_inverse (x p : Int) (w : World) (h2 : 2 ≤ p) (h3 : p ≤ 251) :
    Calls Try.prog 47 #[.int .i64 x, .int .i64 p] w fun e w' => e = .returned (.int .i64 (invE x p)) ∧ w = w' := by
  by_cases h : p = 2
  · subst h
    have HP := Lib.hid fun w => ref_Pow x 1 2 w (by omega) (by omega) (by omega) (by omega)
    go_enter Try.func47, Try.ntmps47
    go_wp2_with fail
    refine (HP.out _).mono ?_
    rintro e w1 ⟨rfl, rfl⟩
    go_wp2
    go_ret
    exact ⟨rfl, rfl⟩
  · have HP := Lib.hid fun w => ref_Pow x (p - 2) p w (by omega) (by omega) (by omega) (by omega)
    have d1 : (2 : Int).tdiv p = 0 := by rw [Int.tdiv_eq_ediv_of_nonneg (by omega)]; exact Int.ediv_eq_zero_of_lt (by omega) (by omega)
    have d2 : (2 : Int) / p = 0 := Int.ediv_eq_zero_of_lt (by omega) (by omega)
    have d3 : (p == 0) = false := by simp; omega
    have HN := Lib.hid h
    have HE : Hid (invE x p = pw x (p - 2) p) := Lib.hid (by unfold invE; rw [if_neg h])
    clear h
    go_enter Try.func47, Try.ntmps47
    go_wp2_with fail
    refine (HP.out _).mono ?_
    rintro e w1 ⟨rfl, rfl⟩
    go_wp2
    go_ret
    exact ⟨by rw [HE.out]; rfl, rfl⟩
end Go.Proofs.Ytkkefbjmdbjbhaa

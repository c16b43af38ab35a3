/- The walk of PrimesUnique. -/
import Derived.Test.YtlabkedkamdomaaRefPw
import Derived.Test.YtlabkedkamdomaaIsPw
import Derived.Test.YtlabkedkamdomaaUniqM
import Derived.Test.YtlabkedkamdomaaPrF
import Derived.Test.YtlabkedkamdomaaRefIs
namespace Go.Proofs.Ytlabkedkamdomaa
open Go.RowKit
set_option linter.unusedVariables false
set_option linter.unusedSimpArgs false
/-- a list of prime powers, as ints -/
def intP (l : List (Nat × Nat)) : List (Int × Int) := l.map fun x => ((x.1 : Int), (x.2 : Int))
theorem intP_flat : ∀ l : List (Nat × Nat), flatI (intP l) = flatP l
  | [] => rfl
  | x :: t => by
    show Value.int .i64 (x.1 : Int) :: Value.int .i64 (x.2 : Int) :: flatI (intP t) = _
    rw [intP_flat t]; rfl
theorem intP_len (l : List (Nat × Nat)) : (intP l).length = l.length := by simp [intP]
/-- the product of powers, as an int -/
def prodZ (l : List (Int × Int)) : Int := l.foldr (fun q x => q.1 ^ q.2.toNat * x) 1
theorem prodZ_snoc : ∀ (l : List (Int × Int)) (x : Int × Int), prodZ (l ++ [x]) = prodZ l * x.1 ^ x.2.toNat
  | [], x => by simp [prodZ]
  | y :: t, x => by
    show y.1 ^ y.2.toNat * prodZ (t ++ [x]) = y.1 ^ y.2.toNat * prodZ t * x.1 ^ x.2.toNat
    rw [prodZ_snoc t x, Int.mul_assoc]
theorem prodZ_nat : ∀ l : List (Nat × Nat), prodZ (intP l) = (M.prodP l : Int)
  | [] => rfl
  | x :: t => by
    show (x.1 : Int) ^ (x.2 : Int).toNat * prodZ (intP t) = ((x.1 ^ x.2 * M.prodP t : Nat) : Int)
    rw [prodZ_nat t, Int.natCast_mul, Int.natCast_pow]; rfl
/-- what the first entries are found to be -/
def RiseTo (l : List (Int × Int)) (I : Nat) : Prop := (∀ (j : Nat) (v : Int × Int), j < I → l[j]? = some v → 2 ≤ v.1 ∧ prB v.1 = true ∧ 1 ≤ v.2) ∧ ∀ (j : Nat) (u v : Int × Int), j + 1 < I → l[j]? = some u → l[j + 1]? = some v → u.1 < v.1
theorem RiseTo.next {l : List (Int × Int)} {I : Nat} {v : Int × Int} (h : RiseTo l I) (hv : l[I]? = some v) (h1 : 2 ≤ v.1) (h2 : prB v.1 = true) (h3 : 1 ≤ v.2) (h4 : ∀ (J : Nat) u, I = J + 1 → l[J]? = some u → u.1 < v.1) : RiseTo l (I + 1) := by
  refine ⟨fun j u hj hu => ?_, fun j u v' hj hu hv' => ?_⟩
  · by_cases e : j = I
    · subst e; rw [hv] at hu; cases hu; exact ⟨h1, h2, h3⟩
    · exact h.1 j u (by omega) hu
  · by_cases e : j + 1 = I
    · rw [e, hv] at hv'; cases hv'; exact h4 j u e.symm hu
    · exact h.2 j u v' (by omega) hu hv'
theorem pairwise_of_next : ∀ l : List (Nat × Nat), (∀ (j : Nat) (u v : Nat × Nat), l[j]? = some u → l[j + 1]? = some v → u.1 < v.1) → l.Pairwise (fun x y => x.1 < y.1)
  | [], _ => List.Pairwise.nil
  | [x], _ => List.pairwise_cons.2 ⟨fun y hy => by simp at hy, List.Pairwise.nil⟩
  | x :: y :: t, h => by
    have ih := pairwise_of_next (y :: t) (fun j u v hu hv => h (j + 1) u v hu hv)
    refine List.pairwise_cons.2 ⟨fun z hz => ?_, ih⟩
    have hxy := h 0 x y rfl rfl
    rcases List.mem_cons.1 hz with rfl | hz
    · exact hxy
    · have := (List.pairwise_cons.1 ih).1 z hz; omega
theorem RiseTo.fac {l : List (Int × Int)} {n : Nat} (hn : 0 < n) (h : RiseTo l l.length) (hp : prodZ l = n) : l = intP (M.fac n) := by
  have hl : intP (l.map fun v => (v.1.toNat, v.2.toNat)) = l := by
    unfold intP
    rw [List.map_map]
    conv => rhs; rw [← List.map_id l]
    refine List.map_congr_left fun v hv => ?_
    obtain ⟨j, hj, rfl⟩ := List.mem_iff_getElem.1 hv
    have := h.1 j _ hj (List.getElem?_eq_getElem hj)
    simp only [Function.comp, id]
    rw [Int.toNat_of_nonneg (by omega), Int.toNat_of_nonneg (by omega)]
  have h0 : (l.map fun v => (v.1.toNat, v.2.toNat)) = M.fac n := by
    refine M.fac_of hn (fun x hx => ?_) (pairwise_of_next _ fun j u v hu hv => ?_) ?_
    · obtain ⟨v, hv, rfl⟩ := List.mem_map.1 hx
      obtain ⟨j, hj, rfl⟩ := List.mem_iff_getElem.1 hv
      have := h.1 j _ hj (List.getElem?_eq_getElem hj)
      exact ⟨prB_true this.2.1, by simp only; omega⟩
    · rw [List.getElem?_map] at hu hv
      obtain ⟨a, ha, rfl⟩ := Option.map_eq_some_iff.1 hu
      obtain ⟨b, hb, rfl⟩ := Option.map_eq_some_iff.1 hv
      have hj : j + 1 < l.length := (List.getElem?_eq_some_iff.1 hb).1
      have h1 := h.1 j a (by omega) ha
      have h2 := h.2 j a b hj ha hb
      simp only; omega
    · have := prodZ_nat (l.map fun v => (v.1.toNat, v.2.toNat))
      rw [hl, hp] at this
      exact (Int.ofNat.inj this).symm
  rw [← h0, hl]
theorem mul_q {o x : Int} {Q : Nat} (h1 : 1 ≤ o) (h2 : o ≤ Q) (h3 : 2 ≤ x) (h4 : x ≤ Q) (hQ : Q ≤ 1048576) : 1 ≤ o * x ∧ o * x ≤ 1099511627776 ∧ o + 1 ≤ o * x := by
  have b1 : o * x ≤ 1048576 * 1048576 := Int.mul_le_mul (by omega) (by omega) (by omega) (by omega)
  have b2 : o * 2 ≤ o * x := Int.mul_le_mul (Int.le_refl o) h3 (by omega) (by omega)
  omega
set_option maxRecDepth 100000 in
set_option maxHeartbeats 6400000 in
theorem WPrimesUnique (a0 : Int) (a1 : Option Addr) (len1 cap1 : Nat) (z1 : List (Int × Int)) (w : World) (w0 : (Lit.int .i64 a0).wf = true) (w1 : IsPts w a1 len1 cap1 z1) :
    Calls Try.prog 7 #[.int .i64 a0, .slice a1 len1 cap1] w fun e w' => e = .returned (.bool true) ∧ Below w.heap.size w w' := by
  obtain ⟨e1, h1, l1⟩ := w1.pts
  have HR := Lib.hid h1
  have E1 := Lib.hid e1
  clear w0 w1 h1 e1
  by_cases hm : 1 ≤ a0 ∧ a0 ≤ 1048576
  · obtain ⟨m1, m2⟩ := hm
    obtain ⟨N, rfl⟩ := Int.eq_ofNat_of_zero_le (show 0 ≤ a0 by omega)
    have n1 : 1 ≤ N := by omega
    have n2 : N ≤ 1048576 := by omega
    have HFa := Lib.hid (primes_Factor_nat N w n1 n2)
    have dm : modB (N : Int) = true := by simp [modB]; omega
    go_enter Try.func7, Try.ntmps7
    go_wp2_with fail
    refine HFa.out.mono ?_
    rintro e w1 ⟨v1, rfl, hb1, ho1⟩
    rw [← intP_flat] at ho1
    obtain ⟨p1, c1, rfl, hp1⟩ := own_rowP (pts := intP (M.fac N)) (by rw [intP_len]; exact ho1)
    obtain ⟨F, hF⟩ : ∃ F, (M.fac N).length = F := ⟨_, rfl⟩
    rw [intP_len, hF]
    have HF := Lib.hid hF
    have hF2 : F + 1 ≤ N := by have := fac_len (M.fac_spec n1); omega
    have HP1 := Lib.hid hp1
    clear ho1 hp1 hF
    go_wp2_with fail
    refine (keep_modulus _ _).mono ?_
    rintro e w2 ⟨rfl, rfl⟩
    go_wp2
    go_loopw [29, 7] (fun i o wr => ∃ I Q : Nat, i = .int .i64 I ∧ I ≤ F ∧ o = .int .i64 Q ∧ Hid (Q = M.prodP ((M.fac N).take I)) ∧ Below w1.heap.size w1 wr) (fun i _ _ => F - (intOf i).toNat)
    case atStart => exact ⟨0, 1, rfl, Nat.zero_le _, rfl, Lib.hid rfl, Below.refl _ _⟩
    case round =>
      obtain ⟨I, Q, rfl, hI, rfl, HQ, hbI⟩ := hrel
      by_cases hlt : I < F
      · obtain ⟨v, hv⟩ : ∃ v, (M.fac N)[I]? = some v := ⟨_, List.getElem?_eq_getElem (by rw [HF.out]; omega)⟩
        obtain ⟨x, K⟩ := v
        have hvz : (intP (M.fac N))[I]? = some ((x : Int), (K : Int)) := by unfold intP; rw [List.getElem?_map, hv]; rfl
        obtain ⟨b, o, rfl, hcell⟩ := (HP1.out.below hbI (Nat.le_refl _)).shape (by rw [intP_len, HF.out]; omega)
        obtain ⟨kx, ky⟩ := hcell I _ hvz
        simp only at kx ky
        obtain ⟨pr, k1, _, hdv⟩ := (M.fac_spec n1).dvd _ (List.mem_of_getElem? hv)
        simp only at pr k1 hdv
        have HTake : Hid (∀ k, k ≤ K → Q * x ^ k ≤ N) := Lib.hid fun k h => by rw [HQ.out]; exact M.prodP_take n1 hv k h
        have x1 := pr.1
        have x2 : x ≤ N := by
          have := Nat.le_of_dvd n1 hdv
          have h2 : x ≤ x ^ K := by
            calc x = x ^ 1 := (Nat.pow_one x).symm
              _ ≤ x ^ K := Nat.pow_le_pow_right pr.pos k1
          omega
        have K2 : K ≤ 1048576 := by
          have := Nat.le_of_dvd n1 hdv
          have h2 : K < 2 ^ K := Nat.lt_two_pow_self
          have h3 := Nat.pow_le_pow_left x1 K
          omega
        have HIs := Lib.hid fun w => primes_Is_in (x : Int) w (by omega) (by omega)
        have hprb : prB (x : Int) = true := prB_yes (by simpa using pr)
        rw [hprb] at HIs
        have HV := Lib.hid hv
        have d1 : decide ((K : Int) < 1) = false := decide_eq_false (by omega)
        have i4 : (I : Int) < F := by omega
        have HPrev : Hid (∀ J : Nat, I = J + 1 → ∃ u : Nat × Nat, (M.fac N)[J]? = some u ∧ u.1 < x) := Lib.hid fun J hJ => by
          obtain ⟨u, hu⟩ : ∃ u, (M.fac N)[J]? = some u := ⟨_, List.getElem?_eq_getElem (by rw [HF.out]; omega)⟩
          have hr := List.pairwise_iff_getElem.1 (M.fac_rising n1) J I (by rw [HF.out]; omega) (by rw [HF.out]; omega) (by omega)
          have h1 := (List.getElem?_eq_some_iff.1 hu).2
          have h2 := (List.getElem?_eq_some_iff.1 hv).2
          rw [h1, h2] at hr
          exact ⟨u, hu, hr⟩
        have HCell := Lib.hid hcell
        clear hv hvz hcell hdv hprb
        go_wp2_with fail
        refine (HIs.out _).mono ?_
        rintro e w3 ⟨rfl, hb3⟩
        have c0 := kept hb3 (b := wr.heap.size) (o := 0) (v := .int .i64 x) (by simp [go_sem]) (by simp)
        have c1 := kept hb3 (b := wr.heap.size) (o := 1) (v := .int .i64 K) (by simp [go_sem]) (by simp)
        have hb3' := below_two ((Below.refl wr.heap.size wr).alloc (Nat.le_refl _) _) hb3
        have HB3 := Lib.hid (below_two hbI hb3')
        have hPrev : I = 0 ∨ ∃ (J u : Nat), I = J + 1 ∧ decide (x ≤ u) = false ∧ w3.cell? ⟨b, o + J * 2, none⟩ = some (.int .i64 u) := by
          rcases I with _ | J
          · exact .inl rfl
          · obtain ⟨u, hu, hlt⟩ := HPrev.out J rfl
            have := (HCell.out J ((u.1 : Int), (u.2 : Int)) (by unfold intP; rw [List.getElem?_map, hu]; rfl)).1
            exact .inr ⟨J, u.1, rfl, decide_eq_false (by omega), kept hb3' this (World.block_lt_of_cell? wr _ this)⟩
        clear hb3 hb3' hbI kx ky
        have hgo : (∀ nq, Below w1.heap.size w1 (w3.drewN nq)) := fun nq => below_drewN HB3.out nq
        rcases hPrev with rfl | ⟨J, u, rfl, d9, ku⟩
        rotate_left
        have j1 : decide ((0 : Int) < (J : Int) + 1) = true := decide_eq_true (by omega)
        have j2 : IntKind.i64.wrap ((J : Int) + 1 - 1) = (J : Int) + 1 - 1 := IntWalk.i64_in _ (by omega)
        have j3 : (0 : Int) ≤ J := by omega
        have j4 : (J : Int) < F := by omega
        rotate_left
        all_goals
          go_wp2_with fail
          go_quiet (fail)
          go_wp2
          go_loop [12, 7] (fun k o => ∃ k0 R : Nat, k = .int .i64 k0 ∧ k0 ≤ K ∧ o = .int .i64 R ∧ Hid (R = Q * x ^ k0)) (fun k _ => K - (intOf k).toNat)
          case atStart => exact ⟨0, Q, rfl, Nat.zero_le _, rfl, Lib.hid (by simp)⟩
          case round =>
            obtain ⟨k0, R, rfl, hk0, rfl, HRk⟩ := hrel
            have r1 : R ≤ N := by rw [HRk.out]; exact HTake.out k0 hk0
            by_cases hk : k0 < K
            · have r2 : R * x ≤ N := by have := HTake.out (k0 + 1) (by omega); rw [Nat.pow_succ, ← Nat.mul_assoc, ← HRk.out] at this; exact this
              obtain ⟨R', hR'⟩ : ∃ R', R * x = R' := ⟨_, rfl⟩
              have hRi : (R : Int) * (x : Int) = (R' : Int) := by rw [← hR', Int.natCast_mul]
              have HR' := Lib.hid hR'
              rw [hR'] at r2
              have fw : IntKind.i64.wrap ((R : Int) * (x : Int)) = (R' : Int) := by rw [hRi]; exact IntWalk.i64_in _ (by omega)
              clear hR' hRi
              go_wp2
              go_round
              case rel => exact ⟨k0 + 1, R', by go_num, by omega, by first | rfl | (rw [← HR'.out, Int.natCast_mul]), Lib.hid (by rw [← HR'.out, HRk.out, Nat.pow_succ, Nat.mul_assoc])⟩
              case measure => simp [intOf]; omega
            · obtain rfl : k0 = K := by omega
              go_wp2
              go_round
              case rel =>
                have hv := HV.out
                first
                  | (refine ⟨1, R, by go_num, by omega, rfl, Lib.hid ?_, hgo _⟩
                     rw [HRk.out, HQ.out, show 1 = 0 + 1 from rfl, List.take_add_one, hv, Option.toList_some, M.prodP_snoc])
                  | (refine ⟨J + 1 + 1, R, by go_num, by omega, rfl, Lib.hid ?_, hgo _⟩
                     have h2 : (M.fac N).take (J + 1 + 1) = (M.fac N).take (J + 1) ++ [(x, k0)] := by rw [List.take_add_one (i := J + 1), hv]; rfl
                     rw [HRk.out, HQ.out, h2, M.prodP_snoc])
              case measure => simp [intOf]; omega
      · obtain rfl : I = F := by omega
        have hQN : Q = N := by rw [HQ.out, ← HF.out, List.take_length]; exact M.prodP_fac (M.fac_spec n1)
        subst hQN
        have HbI := Lib.hid hbI
        clear hbI
        obtain ⟨wo, rfl⟩ : ∃ wo : World, wo = wr := ⟨_, rfl⟩
        go_wp2
        go_loopw [91, 13] (fun i o wv => ∃ (I' : Nat) (o' : Int), i = .int .i64 I' ∧ I' ≤ len1 ∧ o = .int .i64 o' ∧ 1 ≤ o' ∧ o' ≤ 1099511627776 ∧ Hid (o' ≤ Q → o' = prodZ (z1.take I')) ∧ Hid (RiseTo z1 I') ∧ Below wo.heap.size wo wv) (fun i _ _ => len1 - (intOf i).toNat)
        case atStart => exact ⟨0, 1, rfl, Nat.zero_le _, rfl, by omega, by omega, Lib.hid fun _ => rfl, Lib.hid ⟨fun j v hj => absurd hj (Nat.not_lt_zero _), fun j u v hj => absurd hj (by omega)⟩, Below.refl _ _⟩
        case round =>
          obtain ⟨I', o', rfl, hI', rfl, o1, o2, HO, HRi, hbv⟩ := hrel
          have hbt := below_two (below_two hb1 HbI.out) hbv
          by_cases hlt' : I' < len1
          · obtain ⟨v, hv⟩ : ∃ v, z1[I']? = some v := ⟨_, List.getElem?_eq_getElem (by rw [E1.out]; omega)⟩
            obtain ⟨x, K⟩ := v
            obtain ⟨b, o, rfl, hcell⟩ := (HR.out.below hbt (Nat.le_refl _)).shape (by rw [E1.out]; omega)
            obtain ⟨kx, ky⟩ := hcell I' _ hv
            simp only at kx ky
            have HV := Lib.hid hv
            have hz := hbv.size
            have HCell := Lib.hid hcell
            have HA : Hid (Below wo.heap.size wo (wr.alloc (.cells #[.int .i64 x, .int .i64 K] 35))) := Lib.hid (hbv.alloc hz _)
            have HBt := Lib.hid (below_two hb1 HbI.out)
            clear hv hcell hbv hbt
            have nb := World.block_lt_of_cell? wr _ kx
            simp only at nb
            have n1' : ¬ b = wr.heap.size := by omega
            have n2' : ¬ wr.heap.size = b := by omega
            by_cases c1 : x < 2
            · have c1' : decide (x < 2) = true := decide_eq_true c1
              go_wp2_with fail
              go_quiet (fail)
              go_wp2
              go_ret
              exact ⟨rfl, below_two HBt.out (below_drewN HA.out _)⟩
            have c1' : decide (x < 2) = false := decide_eq_false c1
            by_cases c2 : (Q : Int) < x
            · have c2' : decide ((Q : Int) < x) = true := decide_eq_true c2
              go_wp2_with fail
              go_quiet (fail)
              go_wp2
              go_ret
              exact ⟨rfl, below_two HBt.out (below_drewN HA.out _)⟩
            have c2' : decide ((Q : Int) < x) = false := decide_eq_false c2
            replace c1 : 2 ≤ x := by omega
            replace c2 : x ≤ Q := by omega
            by_cases c3 : prB x = true
            rotate_left
            · replace c3 : prB x = false := by simpa using c3
              go_wp2_with fail
              go_quiet ((go_at_call 17; exact quiet_same (ref_Is x _ (by omega))))
              go_wp2
              go_ret
              exact ⟨rfl, below_two HBt.out (below_drewN HA.out _)⟩
            by_cases c4 : K < 1
            · have c4' : decide (K < 1) = true := decide_eq_true c4
              go_wp2_with fail
              go_quiet ((go_at_call 17; exact quiet_same (ref_Is x _ (by omega))))
              go_wp2
              go_ret
              exact ⟨rfl, below_two HBt.out (below_drewN HA.out _)⟩
            have c4' : decide (K < 1) = false := decide_eq_false c4
            obtain ⟨Kn, rfl⟩ := Int.eq_ofNat_of_zero_le (show 0 ≤ K by omega)
            replace c4 : 1 ≤ Kn := by omega
            have C3 := Lib.hid c3
            have hPrev : (∃ J : Nat, ∃ u : Int, I' = J + 1 ∧ decide (x ≤ u) = true ∧ wr.cell? ⟨b, o + J * 2, none⟩ = some (.int .i64 u)) ∨ (Hid (RiseTo z1 (I' + 1)) ∧ (I' = 0 ∨ ∃ J : Nat, ∃ u : Int, I' = J + 1 ∧ decide (x ≤ u) = false ∧ wr.cell? ⟨b, o + J * 2, none⟩ = some (.int .i64 u))) := by
              rcases I' with _ | J
              · exact .inr ⟨Lib.hid (HRi.out.next HV.out (by simpa using c1) C3.out (by simp only; omega) (fun J u h => by omega)), .inl rfl⟩
              · obtain ⟨u, hu⟩ : ∃ u, z1[J]? = some u := ⟨_, List.getElem?_eq_getElem (by rw [E1.out]; omega)⟩
                have ku := (HCell.out J u hu).1
                by_cases hxu : x ≤ u.1
                · exact .inl ⟨J, u.1, rfl, decide_eq_true hxu, ku⟩
                · refine .inr ⟨Lib.hid (HRi.out.next HV.out (by simpa using c1) C3.out (by simp only; omega) (fun J' u' h hu' => ?_)), .inr ⟨J, u.1, rfl, decide_eq_false hxu, ku⟩⟩
                  obtain rfl : J = J' := by omega
                  rw [hu] at hu'; cases hu'; simp only; omega
            rcases hPrev with ⟨J, u, rfl, d9, ku⟩ | ⟨HR1, rfl | ⟨J, u, rfl, d9, ku⟩⟩
            · have j1 : decide ((0 : Int) < (J : Int) + 1) = true := decide_eq_true (by omega)
              have j2 : IntKind.i64.wrap ((J : Int) + 1 - 1) = (J : Int) + 1 - 1 := IntWalk.i64_in _ (by omega)
              have j3 : (0 : Int) ≤ J := by omega
              have j4 : (J : Int) < len1 := by omega
              go_wp2_with fail
              go_quiet ((go_at_call 17; exact quiet_same (ref_Is x _ (by omega))))
              go_wp2
              go_ret
              exact ⟨rfl, below_two HBt.out (below_drewN HA.out _)⟩
            · simp only [Nat.zero_mul, Nat.add_zero] at kx ky
              go_wp2_with fail
              go_quiet ((go_at_call 17; exact quiet_same (ref_Is x _ (by omega))))
              go_wp2
              go_loop [16, 13] (fun k o => ∃ (k0 : Nat) (o3 : Int), k = .int .i64 k0 ∧ k0 ≤ Kn ∧ (k0 : Int) < o3 ∧ o = .int .i64 o3 ∧ 1 ≤ o3 ∧ o3 ≤ 1099511627776 ∧ Hid (o3 ≤ Q → o3 = prodZ (z1.take 0) * x ^ k0)) (fun k _ => Kn - (intOf k).toNat)
              case atStart => exact ⟨0, o', rfl, Nat.zero_le _, by omega, rfl, o1, o2, Lib.hid (fun h => by rw [← HO.out h]; simp)⟩
              case round =>
                obtain ⟨k0, o3, rfl, hk0, hko, rfl, g1, g2, HOk⟩ := hrel
                by_cases hk : k0 < Kn
                · by_cases ho : o3 ≤ Q
                  · obtain ⟨b1, b2, b3⟩ := mul_q g1 ho c1 c2 n2
                    have fw : IntKind.i64.wrap (o3 * x) = o3 * x := IntWalk.i64_in _ (by omega)
                    go_wp2
                    go_round
                    case rel => exact ⟨k0 + 1, o3 * x, by go_num, by omega, by omega, rfl, b1, b2, Lib.hid fun _ => by rw [Int.pow_succ, ← Int.mul_assoc, ← HOk.out ho]⟩
                    case measure => simp [intOf]; omega
                  · have ho' : decide (o3 ≤ (Q : Int)) = false := decide_eq_false ho
                    go_wp2
                    go_round
                    case rel => exact ⟨0 + 1, o3, by go_num, by omega, rfl, g1, g2, Lib.hid fun h => absurd h ho, HR1, below_drewN HA.out _⟩
                    case measure => simp [intOf]; omega
                · obtain rfl : k0 = Kn := by omega
                  go_wp2
                  go_round
                  case rel =>
                    refine ⟨0 + 1, o3, by go_num, by omega, rfl, g1, g2, Lib.hid fun h => ?_, HR1, below_drewN HA.out _⟩
                    have h2 : z1.take (0 + 1) = z1.take 0 ++ [(x, (k0 : Int))] := by rw [List.take_add_one (i := 0), HV.out]; rfl
                    rw [h2, prodZ_snoc, HOk.out h]
                    simp
                  case measure => simp [intOf]; omega
            · have j1 : decide ((0 : Int) < (J : Int) + 1) = true := decide_eq_true (by omega)
              have j2 : IntKind.i64.wrap ((J : Int) + 1 - 1) = (J : Int) + 1 - 1 := IntWalk.i64_in _ (by omega)
              have j3 : (0 : Int) ≤ J := by omega
              have j4 : (J : Int) < len1 := by omega
              go_wp2_with fail
              go_quiet ((go_at_call 17; exact quiet_same (ref_Is x _ (by omega))))
              go_wp2
              go_loop [16, 13] (fun k o => ∃ (k0 : Nat) (o3 : Int), k = .int .i64 k0 ∧ k0 ≤ Kn ∧ (k0 : Int) < o3 ∧ o = .int .i64 o3 ∧ 1 ≤ o3 ∧ o3 ≤ 1099511627776 ∧ Hid (o3 ≤ Q → o3 = prodZ (z1.take (J + 1)) * x ^ k0)) (fun k _ => Kn - (intOf k).toNat)
              case atStart => exact ⟨0, o', rfl, Nat.zero_le _, by omega, rfl, o1, o2, Lib.hid (fun h => by rw [← HO.out h]; simp)⟩
              case round =>
                obtain ⟨k0, o3, rfl, hk0, hko, rfl, g1, g2, HOk⟩ := hrel
                by_cases hk : k0 < Kn
                · by_cases ho : o3 ≤ Q
                  · obtain ⟨b1, b2, b3⟩ := mul_q g1 ho c1 c2 n2
                    have fw : IntKind.i64.wrap (o3 * x) = o3 * x := IntWalk.i64_in _ (by omega)
                    go_wp2
                    go_round
                    case rel => exact ⟨k0 + 1, o3 * x, by go_num, by omega, by omega, rfl, b1, b2, Lib.hid fun _ => by rw [Int.pow_succ, ← Int.mul_assoc, ← HOk.out ho]⟩
                    case measure => simp [intOf]; omega
                  · have ho' : decide (o3 ≤ (Q : Int)) = false := decide_eq_false ho
                    go_wp2
                    go_round
                    case rel => exact ⟨(J + 1) + 1, o3, by go_num, by omega, rfl, g1, g2, Lib.hid fun h => absurd h ho, HR1, below_drewN HA.out _⟩
                    case measure => simp [intOf]; omega
                · obtain rfl : k0 = Kn := by omega
                  go_wp2
                  go_round
                  case rel =>
                    refine ⟨(J + 1) + 1, o3, by go_num, by omega, rfl, g1, g2, Lib.hid fun h => ?_, HR1, below_drewN HA.out _⟩
                    have h2 : z1.take ((J + 1) + 1) = z1.take (J + 1) ++ [(x, (k0 : Int))] := by rw [List.take_add_one (i := (J + 1)), HV.out]; rfl
                    rw [h2, prodZ_snoc, HOk.out h]
                    simp
                  case measure => simp [intOf]; omega
          · obtain rfl : I' = len1 := by omega
            by_cases ho : o' = Q
            · have hz1 : z1 = intP (M.fac Q) := RiseTo.fac n1 (by rw [E1.out]; exact HRi.out) (by
                have := HO.out (by omega)
                rw [← E1.out, List.take_length] at this
                omega)
              have HPo := Lib.hid (ref_Powers a1 p1 cap1 c1 z1 (intP (M.fac Q)) wr (La := I') (Lb := I) (HR.out.below hbt (Nat.le_refl _)) (HP1.out.below (below_two HbI.out hbv) (Nat.le_refl _)) E1.out (by rw [intP_len]; exact HF.out) l1 (by omega))
              rw [decide_eq_true hz1] at HPo
              have q1 : (o' != (Q : Int)) = false := by simpa using ho
              clear ho hz1
              go_wp2_with fail
              refine HPo.out.mono ?_
              rintro e w5 ⟨rfl, hb5⟩
              go_wp2
              go_ret
              exact ⟨rfl, below_two hbt hb5⟩
            · have q1 : (o' != (Q : Int)) = true := by simpa using ho
              go_wp2
              go_ret
              exact ⟨rfl, hbt⟩
  · have dm : modB a0 = false := by simp [modB]; omega
    have HFa := Lib.hid (primes_Factor_out a0 w (by omega))
    clear hm
    go_enter Try.func7, Try.ntmps7
    go_wp2_with fail
    refine HFa.out.mono ?_
    rintro e w1 ⟨rfl, rfl⟩
    go_wp2_with fail
    refine (keep_modulus _ _).mono ?_
    rintro e w2 ⟨rfl, rfl⟩
    go_wp2
    go_ret
    exact ⟨rfl, Below.refl _ _⟩
end Go.Proofs.Ytlabkedkamdomaa

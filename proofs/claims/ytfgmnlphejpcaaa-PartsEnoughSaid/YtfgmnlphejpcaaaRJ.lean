/- The reference's Join: Lagrange at 0. -/
import Derived.Test.YtfgmnlphejpcaaaMgB
import Derived.Test.YtfgmnlphejpcaaaInvR
import Derived.Test.YtfgmnlphejpcaaaRef
import Derived.Test.YtfgmnlphejpcaaaHold
namespace Go.Proofs.Ytfgmnlphejpcaaa
open Go.RowKit
set_option linter.unusedVariables false
set_option linter.unusedSimpArgs false
theorem rj_take {pts : List (Int × Int)} {J : Nat} {v : Int × Int} (h : pts[J]? = some v) : (pts.map (·.1)).take (J + 1) = (pts.map (·.1)).take J ++ [v.1] := by
  rw [List.take_add_one, List.getElem?_map, h]; rfl
theorem rj_out {xs : List Int} (hn : xs.Nodup) {I : Nat} {x : Int} (h : xs[I]? = some x) : x ∉ xs.take I := fun hm => by
  obtain ⟨j, e⟩ := List.mem_iff_getElem?.1 hm
  have hj : j < I := by
    refine Classical.byContradiction fun hlt => ?_
    rw [List.getElem?_take_eq_none (by omega)] at e; cases e
  rw [List.getElem?_take_of_lt hj] at e
  have hl : j < xs.length := by
    refine Classical.byContradiction fun hlt => ?_
    rw [List.getElem?_eq_none (by omega)] at e; cases e
  have := (List.getElem?_inj hl hn).1 (e.trans h.symm)
  omega
theorem rj_sum {p s k : Int} {pts : List (Int × Int)} (hn : (pts.map (·.1)).Nodup) {I : Nat} {v : Int × Int} (h : pts[I]? = some v) {K : Int → Int} (hs : s = (((pts.map (·.1)).take I).map K).sum % p) :
    (s + k) % p = (((pts.map (·.1)).take (I + 1)).map fun z => if z = v.1 then k else K z).sum % p := by
  have ho := rj_out hn (show (pts.map (·.1))[I]? = some v.1 by rw [List.getElem?_map, h]; rfl)
  rw [rj_take h, List.map_append, List.sum_append, hs, Int.emod_add_emod]
  have e : ((pts.map (·.1)).take I).map (fun z => if z = v.1 then k else K z) = ((pts.map (·.1)).take I).map K := List.map_congr_left fun z hz => by
    rw [if_neg (fun e : z = v.1 => ho (e ▸ hz))]
  rw [e]; simp
theorem rj_all {p k : Int} {f : Int → Int} {pts : List (Int × Int)} (hn : (pts.map (·.1)).Nodup) {I : Nat} {v : Int × Int} (h : pts[I]? = some v) {K : Int → Int}
    (hK : ∀ x ∈ (pts.map (·.1)).take I, K x * Zx (pts.map (·.1)) x x % p = f x * Zx (pts.map (·.1)) x 0 % p) (hv : v.2 = f v.1 % p) {N : Nat} (hN : pts.length = N)
    (hk : k * Zx ((pts.map (·.1)).take N) v.1 v.1 % p = v.2 * Zx ((pts.map (·.1)).take N) v.1 0 % p) :
    ∀ x ∈ (pts.map (·.1)).take (I + 1), (fun z => if z = v.1 then k else K z) x * Zx (pts.map (·.1)) x x % p = f x * Zx (pts.map (·.1)) x 0 % p := by
  intro x hx
  rw [List.take_of_length_le (by rw [List.length_map]; omega)] at hk
  have ho := rj_out hn (show (pts.map (·.1))[I]? = some v.1 by rw [List.getElem?_map, h]; rfl)
  rw [rj_take h] at hx
  rcases List.mem_append.1 hx with hx | hx
  · show (if x = v.1 then k else K x) * _ % p = _
    rw [if_neg (fun e : x = v.1 => ho (e ▸ hx))]
    exact hK x hx
  · obtain rfl := List.mem_singleton.1 hx
    show (if v.1 = v.1 then k else K v.1) * _ % p = _
    rw [if_pos rfl, hk, hv, Int.mul_emod, Int.emod_emod, ← Int.mul_emod]
theorem rj_same {p k y : Int} {pts : List (Int × Int)} {J : Nat} {v : Int × Int} (h : pts[J]? = some v) (hk : k * Zx ((pts.map (·.1)).take J) v.1 v.1 % p = y * Zx ((pts.map (·.1)).take J) v.1 0 % p) :
    k * Zx ((pts.map (·.1)).take (J + 1)) v.1 v.1 % p = y * Zx ((pts.map (·.1)).take (J + 1)) v.1 0 % p := by
  rw [rj_take h, Zx_snoc, Zx_snoc, if_pos rfl, if_pos rfl]; exact hk
theorem rj_more {p k y i x : Int} {pts : List (Int × Int)} {J : Nat} {v : Int × Int} (h : pts[J]? = some v) (hne : v.1 ≠ x) (hi : i * ((v.1 - x) % p) % p = 1) (hk : k * Zx ((pts.map (·.1)).take J) x x % p = y * Zx ((pts.map (·.1)).take J) x 0 % p) :
    (k * v.1 % p * i % p) * Zx ((pts.map (·.1)).take (J + 1)) x x % p = y * Zx ((pts.map (·.1)).take (J + 1)) x 0 % p := by
  rw [rj_take h, Zx_snoc, Zx_snoc, if_neg hne, if_neg hne]
  exact ref_step (by rw [← hi, Int.mul_emod, ← Int.mul_emod, Int.mul_emod i ((v.1 - x) % p), Int.emod_emod, ← Int.mul_emod]) hk
theorem invE_rng (x : Int) {p : Int} (h : 2 ≤ p) : 0 ≤ invE x p ∧ invE x p < p := by
  unfold invE pw
  exact ⟨Int.emod_nonneg _ (by omega), Int.emod_lt_of_pos _ (by omega)⟩
set_option maxRecDepth 20000 in
set_option maxHeartbeats 6400000 in
theorem ref_Join (p : Int) (f : Int → Int) (a : Option Addr) (c N : Nat) (pts : List (Int × Int)) (w : World) (hN : pts.length = N) (h : RowP w a c pts) (hpr : prB p = true) (hp1 : 2 ≤ p) (hp2 : p ≤ 251) (hN13 : N ≤ 13) (hr : ∀ v ∈ pts, 0 ≤ v.1 ∧ v.1 < p) (hn : (pts.map (·.1)).Nodup) (hv : ∀ v ∈ pts, v.2 = f v.1 % p) (hf : PF p N f) :
    Calls Try.prog 33 #[.int .i64 p, .slice a N c] w fun e w' => e = .returned (.int .i64 (f 0 % p)) ∧ Below w.heap.size w w' := by
  have HR := Lib.hid h
  have HN := Lib.hid hN
  have HRG := Lib.hid hr
  have HV := Lib.hid hv
  have HPR := Lib.hid hpr
  have HF := Lib.hid hf
  have HND := Lib.hid hn
  have HMod := Lib.hid fun x W => ref_Mod x p W (by omega) (by omega)
  have HInv := Lib.hid fun x W => ref_inverse x p W hp1 hp2
  have p0 : (p == 0) = false := by simp; omega
  have p1 : ¬ p = 0 := by omega
  clear h hN hr hv hpr hf hn
  go_enter Try.func33, Try.ntmps33
  go_wp2
  go_loopw [5, 6] (fun sv iv wr => ∃ (I : Nat) (s : Int) (K : Int → Int), sv = .int .i64 s ∧ iv = .int .i64 I ∧ I ≤ N ∧ 0 ≤ s ∧ s < p ∧ Hid (s = (((pts.map (·.1)).take I).map K).sum % p) ∧ Hid (∀ x ∈ (pts.map (·.1)).take I, K x * Zx (pts.map (·.1)) x x % p = f x * Zx (pts.map (·.1)) x 0 % p) ∧ Hid (Below w.heap.size w wr)) (fun _ iv _ => N - (intOf iv).toNat)
  case atStart => exact ⟨0, 0, fun _ => 0, rfl, rfl, by omega, by omega, by omega, Lib.hid (by simp), Lib.hid (by simp), Lib.hid (Below.refl _ _)⟩
  case round =>
    obtain ⟨I, s, K, rfl, rfl, hI, s1, s2, HS, HK, HB⟩ := hrel
    by_cases hIe : I = N
    · subst hIe
      have HFin : Hid (s = f 0 % p) := Lib.hid (by
        have e : (pts.map (·.1)).take I = pts.map (·.1) := List.take_of_length_le (by rw [List.length_map, HN.out]; exact Nat.le_refl _)
        have hk := HK.out
        rw [e] at hk
        rw [HS.out, e]
        exact lag_law2 HPR.out hp1 HND.out (fun x hx => by obtain ⟨v, hv, rfl⟩ := List.mem_map.1 hx; exact HRG.out v hv) (by rw [List.length_map, HN.out]; exact HF.out) hk)
      clear HS HK
      go_wp2
      go_ret
      exact ⟨by rw [← HFin.out]; rfl, HB.out⟩
    · obtain ⟨v, hv⟩ : ∃ v, pts[I]? = some v := ⟨_, List.getElem?_eq_getElem (by rw [HN.out]; omega)⟩
      obtain ⟨b, o, rfl, hcell⟩ := (HR.out.below HB.out (Nat.le_refl _)).shape (by rw [HN.out]; omega)
      obtain ⟨x, y⟩ := v
      obtain ⟨kx, ky⟩ := hcell I (x, y) hv
      simp only at kx ky
      have HC := Lib.hid hcell
      have HVI := Lib.hid hv
      obtain ⟨x1, x2⟩ := HRG.out _ (List.mem_of_getElem? hv)
      have hy := HV.out _ (List.mem_of_getElem? hv)
      simp only at x1 x2 hy
      have y1 : 0 ≤ y := by rw [hy]; exact Int.emod_nonneg _ (by omega)
      have y2 : y < p := by rw [hy]; exact Int.emod_lt_of_pos _ (by omega)
      have HY := Lib.hid hy
      have hlt : I < N := by omega
      clear hcell hv hy hIe
      go_wp2_with fail
      obtain ⟨wo, rfl⟩ : ∃ wo : World, wo = wr := ⟨_, rfl⟩
      go_loopw [7, 8] (fun kv jv wr => ∃ (J : Nat) (k : Int), kv = .int .i64 k ∧ jv = .int .i64 J ∧ J ≤ N ∧ 0 ≤ k ∧ k < p ∧ Hid (k * Zx ((pts.map (·.1)).take J) x x % p = y * Zx ((pts.map (·.1)).take J) x 0 % p) ∧ Hid (Below wo.heap.size wo wr)) (fun _ jv _ => N - (intOf jv).toNat)
      case atStart => exact ⟨0, y, rfl, rfl, by omega, y1, y2, Lib.hid rfl, Lib.hid (Below.refl _ _)⟩
      case round =>
        obtain ⟨J, k, rfl, rfl, hJ, k1, k2, HKJ, HBJ⟩ := hrel
        by_cases hJe : J = N
        · subst hJe
          have HS2 := Lib.hid (rj_sum (k := k) HND.out HVI.out HS.out)
          have HK2 := Lib.hid (rj_all (k := k) HND.out HVI.out HK.out HY.out HN.out HKJ.out)
          have f1 : IntKind.i64.wrap (s + k) = s + k := IntWalk.i64_in _ (by omega)
          have f2 : (s + k).tmod p = (s + k) % p := Int.tmod_eq_emod_of_nonneg (by omega)
          have r1 := Int.emod_nonneg (s + k) (show p ≠ 0 by omega)
          have r2 := Int.emod_lt_of_pos (s + k) (show 0 < p by omega)
          have f3 : wrap64 (s + k) = s + k := by unfold wrap64; omega
          clear HS HK HKJ kx ky
          go_wp2
          go_round
          case rel => exact ⟨I + 1, (s + k) % p, _, rfl, by go_num, by omega, r1, r2, HS2, HK2, Lib.hid (below_two HB.out HBJ.out)⟩
          case measure => simp [intOf]; omega
        · have hJlt : J < N := by omega
          by_cases hJI : J = I
          · subst hJI
            have HK2 := Lib.hid (rj_same HVI.out HKJ.out)
            clear HKJ kx ky
            go_wp2
            go_round
            case rel => exact ⟨J + 1, k, rfl, by go_num, by omega, k1, k2, HK2, HBJ⟩
            case measure => simp [intOf]; omega
          · obtain ⟨⟨X, Y⟩, hv⟩ : ∃ v, pts[J]? = some v := ⟨_, List.getElem?_eq_getElem (by rw [HN.out]; omega)⟩
            have kX := (HBJ.out.cell (p := ⟨b, o + J * 2, none⟩) (by have := World.block_lt_of_cell? _ _ (HC.out J _ hv).1; exact this)).trans (HC.out J _ hv).1
            have kI := (HBJ.out.cell (p := ⟨b, o + I * 2, none⟩) (by have := World.block_lt_of_cell? _ _ kx; exact this)).trans kx
            simp only at kX
            obtain ⟨X1, X2⟩ := HRG.out _ (List.mem_of_getElem? hv)
            simp only at X1 X2
            have hXx : X ≠ x := fun e => hJI ((List.getElem?_inj (by rw [List.length_map, HN.out]; exact hJlt) HND.out).1 (show (pts.map (·.1))[J]? = (pts.map (·.1))[I]? by rw [List.getElem?_map, List.getElem?_map, hv, HVI.out]; exact congrArg some e))
            have hd : (X - x) % p ≠ 0 := diff_unit ⟨X1, X2⟩ ⟨x1, x2⟩ hXx
            have d1 := Int.emod_nonneg (X - x) (show p ≠ 0 by omega)
            have d2 := Int.emod_lt_of_pos (X - x) (show 0 < p by omega)
            have hiv := invE_ok HPR.out hp1 (x := (X - x) % p) (by omega) d2
            have HM := Lib.hid fun W => HMod.out (X - x) W
            have HIV := Lib.hid fun W => HInv.out ((X - x) % p) W
            obtain ⟨i1, i2⟩ := invE_rng ((X - x) % p) hp1
            obtain ⟨i, hi⟩ : ∃ i, invE ((X - x) % p) p = i := ⟨_, rfl⟩
            rw [hi] at hiv i1 i2 HIV
            have HK2 := Lib.hid (rj_more hv hXx hiv HKJ.out)
            simp only at HK2
            have zb : b < wr.heap.size := World.block_lt_of_cell? _ _ kX
            obtain ⟨m1, m2⟩ := mul_bd2 hp2 k1 k2 X1 X2
            have f1 : IntKind.i64.wrap (k * X) = k * X := IntWalk.i64_in _ (by omega)
            have f2 : (k * X).tmod p = (k * X) % p := Int.tmod_eq_emod_of_nonneg (by omega)
            have f3 : wrap64 (k * X) = k * X := by unfold wrap64; omega
            have r1 := Int.emod_nonneg (k * X) (show p ≠ 0 by omega)
            have r2 := Int.emod_lt_of_pos (k * X) (show 0 < p by omega)
            have f4 : IntKind.i64.wrap (X - x) = X - x := IntWalk.i64_in _ (by omega)
            have f5 : wrap64 (X - x) = X - x := by unfold wrap64; omega
            obtain ⟨m3, m4⟩ := mul_bd2 hp2 r1 r2 i1 i2
            have f6 : IntKind.i64.wrap (k * X % p * i) = k * X % p * i := IntWalk.i64_in _ (by omega)
            have f7 : (k * X % p * i).tmod p = (k * X % p * i) % p := Int.tmod_eq_emod_of_nonneg (by omega)
            have f8 : wrap64 (k * X % p * i) = k * X % p * i := by unfold wrap64; omega
            have r3 := Int.emod_nonneg (k * X % p * i) (show p ≠ 0 by omega)
            have r4 := Int.emod_lt_of_pos (k * X % p * i) (show 0 < p by omega)
            have f9 : ((J : Int) == (I : Int)) = false := by simp; omega
            have f10 : ((J : Int) != (I : Int)) = true := by simp; omega
            clear HKJ kx ky hv hd hiv hi hXx hJe
            go_wp2_with fail
            refine wp_region_D (S := (fun W : World => Below wr.heap.size wr W)) (fun _ => true) (by kernel_rfl) (Below.refl _ _).drew (fun hHeld => ?_)
            simp only [List.size_toArray, List.length_cons, List.length_nil, Nat.reduceAdd, Array.replicate_succ, Array.replicate_zero, List.push_toArray, List.append_toArray, List.nil_append, List.cons_append]
            refine WD_free (i := 0) (oi := _) (v := ?_) rfl (by kernel_rfl) (fun _ _ _ h => h) (Or.inl ⟨by rfl, ?_⟩) ?_
            rotate_left
            · (intro W hS; (try dsimp only at hS); clear hS; go_simp; with_reducible rfl)
            try simp only [Act.put, List.getElem_toArray, List.getElem_cons_succ, List.getElem_cons_zero, List.setIfInBounds_toArray, List.set_cons_zero, List.set_cons_succ]
            refine WD_free (i := 1) (oi := _) (v := ?_) rfl (by kernel_rfl) (fun _ _ _ h => h) (Or.inl ⟨by rfl, ?_⟩) ?_
            rotate_left
            · (intro W hS; (try dsimp only at hS); clear hS; go_simp; with_reducible rfl)
            try simp only [Act.put, List.getElem_toArray, List.getElem_cons_succ, List.getElem_cons_zero, List.setIfInBounds_toArray, List.set_cons_zero, List.set_cons_succ]
            refine WD_free (i := 2) (oi := _) (v := ?_) rfl (by kernel_rfl) (fun _ _ _ h => h) (Or.inl ⟨by rfl, ?_⟩) ?_
            rotate_left
            · (intro W hS; (try dsimp only at hS); clear hS; go_simp; with_reducible rfl)
            try simp only [Act.put, List.getElem_toArray, List.getElem_cons_succ, List.getElem_cons_zero, List.setIfInBounds_toArray, List.set_cons_zero, List.set_cons_succ]
            refine WD_free (i := 3) (oi := _) (v := ?_) rfl (by kernel_rfl) (fun _ _ _ h => h) (Or.inl ⟨by rfl, ?_⟩) ?_
            rotate_left
            · (intro W hS; (try dsimp only at hS); clear hS; go_simp; with_reducible rfl)
            try simp only [Act.put, List.getElem_toArray, List.getElem_cons_succ, List.getElem_cons_zero, List.setIfInBounds_toArray, List.set_cons_zero, List.set_cons_succ]
            refine WD_free (i := 4) (oi := _) (v := ?_) rfl (by kernel_rfl) (fun _ _ _ h => h) (Or.inl ⟨by rfl, ?_⟩) ?_
            rotate_left
            · (intro W hS; (try dsimp only at hS); clear hS; go_simp; with_reducible rfl)
            try simp only [Act.put, List.getElem_toArray, List.getElem_cons_succ, List.getElem_cons_zero, List.setIfInBounds_toArray, List.set_cons_zero, List.set_cons_succ]
            refine WD_take (i := 5) (oi := _) (v := ?_) rfl (by kernel_rfl) (fun _ _ _ h => h) (Or.inl ⟨by rfl, ?_⟩) (by assumption) ?_
            rotate_left
            · (intro W hS; (try dsimp only at hS); have kk := (hS.cell (p := ⟨b, o + J * 2, none⟩) zb).trans kX; clear hS; go_simp; with_reducible rfl)
            try simp only [Act.put, List.getElem_toArray, List.getElem_cons_succ, List.getElem_cons_zero, List.setIfInBounds_toArray, List.set_cons_zero, List.set_cons_succ]
            refine WD_free (i := 6) (oi := _) (v := ?_) rfl (by kernel_rfl) (fun _ _ _ h => h) (Or.inl ⟨by rfl, ?_⟩) ?_
            rotate_left
            · (intro W hS; (try dsimp only at hS); clear hS; go_simp; with_reducible rfl)
            try simp only [Act.put, List.getElem_toArray, List.getElem_cons_succ, List.getElem_cons_zero, List.setIfInBounds_toArray, List.set_cons_zero, List.set_cons_succ]
            refine WD_free (i := 7) (oi := _) (v := ?_) rfl (by kernel_rfl) (fun _ _ _ h => h) (Or.inl ⟨by rfl, ?_⟩) ?_
            rotate_left
            · (intro W hS; (try dsimp only at hS); clear hS; go_simp; with_reducible rfl)
            try simp only [Act.put, List.getElem_toArray, List.getElem_cons_succ, List.getElem_cons_zero, List.setIfInBounds_toArray, List.set_cons_zero, List.set_cons_succ]
            refine WD_free (i := 8) (oi := _) (v := ?_) rfl (by kernel_rfl) (fun _ _ _ h => h) (Or.inl ⟨by rfl, ?_⟩) ?_
            rotate_left
            · (intro W hS; (try dsimp only at hS); clear hS; go_simp; with_reducible rfl)
            try simp only [Act.put, List.getElem_toArray, List.getElem_cons_succ, List.getElem_cons_zero, List.setIfInBounds_toArray, List.set_cons_zero, List.set_cons_succ]
            refine WD_free (i := 9) (oi := _) (v := ?_) rfl (by kernel_rfl) (fun _ _ _ h => h) (Or.inl ⟨by rfl, ?_⟩) ?_
            rotate_left
            · (intro W hS; (try dsimp only at hS); clear hS; go_simp; with_reducible rfl)
            try simp only [Act.put, List.getElem_toArray, List.getElem_cons_succ, List.getElem_cons_zero, List.setIfInBounds_toArray, List.set_cons_zero, List.set_cons_succ]
            refine WD_free (i := 10) (oi := _) (v := ?_) rfl (by kernel_rfl) (fun _ _ _ h => h) (Or.inl ⟨by rfl, ?_⟩) ?_
            rotate_left
            · (intro W hS; (try dsimp only at hS); clear hS; go_simp; with_reducible rfl)
            try simp only [Act.put, List.getElem_toArray, List.getElem_cons_succ, List.getElem_cons_zero, List.setIfInBounds_toArray, List.set_cons_zero, List.set_cons_succ]
            refine WD_free (i := 11) (oi := _) (v := ?_) rfl (by kernel_rfl) (fun _ _ _ h => h) (Or.inl ⟨by rfl, ?_⟩) ?_
            rotate_left
            · (intro W hS; (try dsimp only at hS); clear hS; go_simp; with_reducible rfl)
            try simp only [Act.put, List.getElem_toArray, List.getElem_cons_succ, List.getElem_cons_zero, List.setIfInBounds_toArray, List.set_cons_zero, List.set_cons_succ]
            refine WD_free (i := 12) (oi := _) (v := ?_) rfl (by kernel_rfl) (fun _ _ _ h => h) (Or.inl ⟨by rfl, ?_⟩) ?_
            rotate_left
            · (intro W hS; (try dsimp only at hS); clear hS; go_simp; with_reducible rfl)
            try simp only [Act.put, List.getElem_toArray, List.getElem_cons_succ, List.getElem_cons_zero, List.setIfInBounds_toArray, List.set_cons_zero, List.set_cons_succ]
            refine WD_take (i := 13) (oi := _) (v := ?_) rfl (by kernel_rfl) (fun _ _ _ h => h) (Or.inl ⟨by rfl, ?_⟩) (by assumption) ?_
            rotate_left
            · (intro W hS; (try dsimp only at hS); have kk := (hS.cell (p := ⟨b, o + J * 2, none⟩) zb).trans kX; clear hS; go_simp; with_reducible rfl)
            try simp only [Act.put, List.getElem_toArray, List.getElem_cons_succ, List.getElem_cons_zero, List.setIfInBounds_toArray, List.set_cons_zero, List.set_cons_succ]
            refine WD_free (i := 14) (oi := _) (v := ?_) rfl (by kernel_rfl) (fun _ _ _ h => h) (Or.inl ⟨by rfl, ?_⟩) ?_
            rotate_left
            · (intro W hS; (try dsimp only at hS); clear hS; go_simp; with_reducible rfl)
            try simp only [Act.put, List.getElem_toArray, List.getElem_cons_succ, List.getElem_cons_zero, List.setIfInBounds_toArray, List.set_cons_zero, List.set_cons_succ]
            refine WD_free (i := 15) (oi := _) (v := ?_) rfl (by kernel_rfl) (fun _ _ _ h => h) (Or.inl ⟨by rfl, ?_⟩) ?_
            rotate_left
            · (intro W hS; (try dsimp only at hS); clear hS; go_simp; with_reducible rfl)
            try simp only [Act.put, List.getElem_toArray, List.getElem_cons_succ, List.getElem_cons_zero, List.setIfInBounds_toArray, List.set_cons_zero, List.set_cons_succ]
            refine WD_free (i := 16) (oi := _) (v := ?_) rfl (by kernel_rfl) (fun _ _ _ h => h) (Or.inl ⟨by rfl, ?_⟩) ?_
            rotate_left
            · (intro W hS; (try dsimp only at hS); clear hS; go_simp; with_reducible rfl)
            try simp only [Act.put, List.getElem_toArray, List.getElem_cons_succ, List.getElem_cons_zero, List.setIfInBounds_toArray, List.set_cons_zero, List.set_cons_succ]
            refine WD_free (i := 17) (oi := _) (v := ?_) rfl (by kernel_rfl) (fun _ _ _ h => h) (Or.inl ⟨by rfl, ?_⟩) ?_
            rotate_left
            · (intro W hS; (try dsimp only at hS); clear hS; go_simp; with_reducible rfl)
            try simp only [Act.put, List.getElem_toArray, List.getElem_cons_succ, List.getElem_cons_zero, List.setIfInBounds_toArray, List.set_cons_zero, List.set_cons_succ]
            refine WD_take (i := 18) (oi := _) (v := ?_) rfl (by kernel_rfl) (fun _ _ _ h => h) (Or.inl ⟨by rfl, ?_⟩) (by assumption) ?_
            rotate_left
            · (intro W hS; (try dsimp only at hS); have kk := (hS.cell (p := ⟨b, o + I * 2, none⟩) zb).trans kI; clear hS; go_simp; with_reducible rfl)
            try simp only [Act.put, List.getElem_toArray, List.getElem_cons_succ, List.getElem_cons_zero, List.setIfInBounds_toArray, List.set_cons_zero, List.set_cons_succ]
            refine WD_free (i := 19) (oi := _) (v := ?_) rfl (by kernel_rfl) (fun _ _ _ h => h) (Or.inl ⟨by rfl, ?_⟩) ?_
            rotate_left
            · (intro W hS; (try dsimp only at hS); clear hS; go_simp; with_reducible rfl)
            try simp only [Act.put, List.getElem_toArray, List.getElem_cons_succ, List.getElem_cons_zero, List.setIfInBounds_toArray, List.set_cons_zero, List.set_cons_succ]
            refine WD_free (i := 20) (oi := _) (v := ?_) rfl (by kernel_rfl) (fun _ _ _ h => h) (Or.inl ⟨by rfl, ?_⟩) ?_
            rotate_left
            · (intro W hS; (try dsimp only at hS); clear hS; go_simp; with_reducible rfl)
            try simp only [Act.put, List.getElem_toArray, List.getElem_cons_succ, List.getElem_cons_zero, List.setIfInBounds_toArray, List.set_cons_zero, List.set_cons_succ]
            refine WD_free (i := 22) (oi := _) (v := ?_) rfl (by kernel_rfl) (fun _ _ _ h => h) (Or.inl ⟨by rfl, ?_⟩) ?_
            rotate_left
            · (intro W hS; (try dsimp only at hS); clear hS; go_simp; with_reducible rfl)
            try simp only [Act.put, List.getElem_toArray, List.getElem_cons_succ, List.getElem_cons_zero, List.setIfInBounds_toArray, List.set_cons_zero, List.set_cons_succ]
            refine WD_free (i := 25) (oi := _) (v := ?_) rfl (by kernel_rfl) (fun _ _ _ h => h) (Or.inl ⟨by rfl, ?_⟩) ?_
            rotate_left
            · (intro W hS; (try dsimp only at hS); clear hS; go_simp; with_reducible rfl)
            try simp only [Act.put, List.getElem_toArray, List.getElem_cons_succ, List.getElem_cons_zero, List.setIfInBounds_toArray, List.set_cons_zero, List.set_cons_succ]
            refine WD_step (i := 21) (o := _) rfl (by kernel_rfl) (fun K hK => ?_)
            go_simp
            refine (HM.out _).mono ?_
            rintro e w1 ⟨rfl, rfl⟩
            go_wp2_with fail
            replace hHeld := hHeld
            refine hK.out _ _ (fun _ _ => hHeld) ?_
            clear hK K
            try simp only [Act.put, List.getElem_toArray, List.getElem_cons_succ, List.getElem_cons_zero, List.setIfInBounds_toArray, List.set_cons_zero, List.set_cons_succ]
            refine WD_step (i := 23) (o := _) rfl (by kernel_rfl) (fun K hK => ?_)
            go_simp
            refine (HIV.out _).mono ?_
            rintro e w1 ⟨rfl, rfl⟩
            go_wp2_with fail
            replace hHeld := hHeld
            refine hK.out _ _ (fun _ _ => hHeld) ?_
            clear hK K
            try simp only [Act.put, List.getElem_toArray, List.getElem_cons_succ, List.getElem_cons_zero, List.setIfInBounds_toArray, List.set_cons_zero, List.set_cons_succ]
            refine WD_free (i := 24) (oi := _) (v := ?_) rfl (by kernel_rfl) (fun _ _ _ h => h) (Or.inl ⟨by rfl, ?_⟩) ?_
            rotate_left
            · (intro W hS; (try dsimp only at hS); clear hS; go_simp; with_reducible rfl)
            try simp only [Act.put, List.getElem_toArray, List.getElem_cons_succ, List.getElem_cons_zero, List.setIfInBounds_toArray, List.set_cons_zero, List.set_cons_succ]
            refine WD_free (i := 26) (oi := _) (v := ?_) rfl (by kernel_rfl) (fun _ _ _ h => h) (Or.inl ⟨by rfl, ?_⟩) ?_
            rotate_left
            · (intro W hS; (try dsimp only at hS); clear hS; go_simp; with_reducible rfl)
            try simp only [Act.put, List.getElem_toArray, List.getElem_cons_succ, List.getElem_cons_zero, List.setIfInBounds_toArray, List.set_cons_zero, List.set_cons_succ]
            refine WD_free (i := 27) (oi := _) (v := ?_) rfl (by kernel_rfl) (fun _ _ _ h => h) (Or.inl ⟨by rfl, ?_⟩) ?_
            rotate_left
            · (intro W hS; (try dsimp only at hS); clear hS; go_simp; with_reducible rfl)
            try simp only [Act.put, List.getElem_toArray, List.getElem_cons_succ, List.getElem_cons_zero, List.setIfInBounds_toArray, List.set_cons_zero, List.set_cons_succ]
            refine WD_done (by kernel_rfl) ?_ _

            have HBH := Lib.hid (below_two HBJ.out hHeld)
            clear hHeld
            go_wp2
            go_round
            case rel => exact ⟨J + 1, _, rfl, by go_num, by omega, r3, r4, HK2, HBH⟩
            case measure => simp [intOf]; omega
end Go.Proofs.Ytfgmnlphejpcaaa

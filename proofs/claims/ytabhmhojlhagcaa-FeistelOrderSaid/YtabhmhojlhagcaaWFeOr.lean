/- The walk of FeistelOrder. -/
import Derived.Test.YtabhmhojlhagcaaOrdW
import Derived.Test.YtabhmhojlhagcaaFeR
namespace Go.Proofs.Ytabhmhojlhagcaa
open Go.RowKit
set_option linter.unusedVariables false
set_option linter.unusedSimpArgs false
theorem fsE_rnd {rows : List (List Int)} {x : Int} (h : Rnd rows) (h0 : 0 ≤ x) (h1 : x < 256) : fsE rows x = 0 := fsE_zero.2 ⟨h, h0, h1⟩
theorem feistel_Order_no (a : Option Addr) (c : Nat) (R : Nat → Option Addr × Nat) (rows : List (List Int)) (w : World) (L : Nat) (h : RowR w a c R rows) (hL : rows.length = L) (hl : L ≤ 9223372036854775807) (hrl : ∀ r ∈ rows, r.length ≤ 9223372036854775807) (hf : fsE rows 0 ≠ 0) :
    Calls Try.prog 20 #[.slice a L c] w fun e w' => e = .returned (.tuple #[.int .i64 0, .int .i64 (fsE rows 0)]) ∧ Below w.heap.size w w' := by
  have HW := Lib.hid (feistel_wrong a c R rows 0 w L h hL hl hrl)
  obtain ⟨E, hE⟩ : ∃ E, fsE rows 0 = E := ⟨_, rfl⟩
  rw [hE] at HW hf ⊢
  have hne : (E != 0) = true := by simpa using hf
  clear hE h hL hrl
  go_enter Try.func20, Try.ntmps20
  go_wp2_with fail
  refine HW.out.mono ?_
  rintro e w1 ⟨rfl, hb1⟩
  go_wp2
  go_ret2
  exact ⟨rfl, hb1⟩
set_option maxRecDepth 20000 in
set_option maxHeartbeats 3200000 in
theorem WFeistelOrder (a0 : Option Addr) (len0 cap0 : Nat) (z0 : List (List Int)) (a1 : Int) (a2 : Int) (w : World) (w0 : IsMat w a0 len0 cap0 z0) (w1 : (Lit.int .i64 a1).wf = true) (w2 : (Lit.int .i64 a2).wf = true) :
    Calls Try.prog 7 #[.slice a0 len0 cap0, .int .i64 a1, .int .i64 a2] w fun e w' => e = .returned (.bool true) ∧ Below w.heap.size w w' := by
  obtain ⟨hL, hl, ⟨R, hr⟩, hrl0⟩ := w0
  have hrl : ∀ r ∈ z0, r.length ≤ 9223372036854775807 := fun r h => (hrl0 r h).1
  have b1 := wf64 w1
  have b2 := wf64 w2
  clear w1 w2 hrl0
  have HR := Lib.hid hr
  have HC := Lib.hid fun W h => ref_RoundsCheck a0 cap0 R z0 a1 W len0 h hL hl hrl
  by_cases hf : fsE z0 0 = 0
  · obtain ⟨hn, _, _⟩ := fsE_zero.1 hf
    have HO := Lib.hid (feistel_Order a0 cap0 R z0 w len0 hr hL hf)
    by_cases hx : fsE z0 a1 = 0
    · obtain ⟨_, x0, x1⟩ := fsE_zero.1 hx
      obtain ⟨X, rfl⟩ := Int.eq_ofNat_of_zero_le x0
      have hX : X < 256 := by omega
      rw [hx] at HC
      have HS := Lib.hid fun W (x : Nat) (hx : x < 256) h => feistel_Seal a0 cap0 R z0 x W len0 h hL (fsE_rnd hn (by omega) (by omega))
      have HRS := Lib.hid fun W (x : Nat) (hx : x < 256) h => ref_Seal a0 cap0 R z0 x W len0 h hL hn hx
      have HP := Lib.hid (seal_perm hn)
      obtain ⟨fn, hfn⟩ : ∃ f, sealN z0 = f := ⟨_, rfl⟩
      rw [hfn] at HO HS HRS HP
      clear hfn hn hf hr hrl hL hx
      go_enter Try.func7, Try.ntmps7
      go_wp2_with fail
      refine HO.out.mono ?_
      rintro e w1 ⟨O, rfl, hO, hb1⟩
      have o1 := hO.1
      have HOB := Lib.hid hO.2.1
      have HBK := Lib.hid hO.2.2.1
      have HLE := Lib.hid hO.2.2.2
      clear hO
      have HR1 := Lib.hid (HR.out.below hb1 (Nat.le_refl _))
      go_wp2_with fail
      refine (HC.out _ HR1.out).mono ?_
      rintro e w' ⟨rfl, rfl⟩
      by_cases h3 : 3000 < O
      · have h3i : (3000 : Int) < (O : Int) := by omega
        go_wp2
        go_ret
        exact ⟨rfl, hb1⟩
      · have h3i : ¬ (3000 : Int) < (O : Int) := by omega
        have h3n : O ≤ 3000 := by omega
        go_wp2
        rw [decide_eq_false (show ¬ (3000 : Int) < (O : Int) by omega), decide_eq_false (show ¬ (O : Int) < 1 by omega)]
        go_loopw [9, 10] (fun y k wr => ∃ (K Y : Nat), k = .int .i64 (K : Int) ∧ y = .int .i64 (Y : Int) ∧ K ≤ O ∧ Hid (Y = F.it fn K X) ∧ Below w1.heap.size w1 wr) (fun _ k _ => O - (intOf k).toNat)
        case atStart => exact ⟨0, X, rfl, rfl, Nat.zero_le _, Lib.hid rfl, Below.refl _ _⟩
        case round =>
          obtain ⟨K, Y, rfl, rfl, hK, HY, hb⟩ := hrel
          by_cases hlt : K < O
          · have hY : Y < 256 := by rw [HY.out]; exact HP.out.it_lt hX K
            have HSS := Lib.hid (HS.out wr Y hY (HR1.out.below hb (Nat.le_refl _)))
            have HN : Hid (fn Y = F.it fn (K + 1) X) := Lib.hid (by rw [HY.out]; rfl)
            obtain ⟨Z, hZ⟩ : ∃ Z, fn Y = Z := ⟨_, rfl⟩
            rw [hZ] at HSS HN
            clear hZ
            have i1 : (K : Int) < O := by omega
            go_wp2_with fail
            refine HSS.out.mono ?_
            rintro e w2 ⟨rfl, hb2⟩
            go_wp2
            go_roundw
            case rel => exact ⟨K + 1, Z, by go_num, rfl, by omega, HN, below_two hb hb2⟩
            case measure => simp [intOf]; omega
          · have e : K = O := by omega
            have HYX : Hid (Y = X) := Lib.hid (by rw [HY.out, e]; exact HBK.out X hX)
            rw [HYX.out]
            have hneX : ((X : Int) != (X : Int)) = false := by simp
            have hge : ¬ (K : Int) < O := by omega
            have hbb := below_two hb1 hb
            have HR2 := Lib.hid (HR1.out.below hb (Nat.le_refl _))
            clear hK hb e
            by_cases d1 : a2 < 1
            · go_wp2
              go_ret
              exact ⟨rfl, hbb⟩
            by_cases d2 : (O : Int) ≤ a2
            · go_wp2
              go_ret
              exact ⟨rfl, hbb⟩
            obtain ⟨d, rfl⟩ := Int.eq_ofNat_of_zero_le (show 0 ≤ a2 by omega)
            have t1 : (O : Int).tmod d = ((O % d : Nat) : Int) := by rw [Int.tmod_eq_emod_of_nonneg (by omega)]; norm_cast
            have t2 : (O : Int) % d = ((O % d : Nat) : Int) := by norm_cast
            have t3 : ((d : Int) == 0) = false := by simp; omega
            have t4 : ¬ (d : Int) = 0 := by omega
            have d1n : 1 ≤ d := by omega
            have d2n : d < O := by omega
            by_cases hd : O % d = 0
            · rw [hd] at t1 t2
              have d1i : ¬ (d : Int) < 1 := by omega
              have d2i : ¬ (O : Int) ≤ (d : Int) := by omega
              have HLE2 : Hid (¬ ∀ y, y < 256 → F.it fn d y = y) := Lib.hid fun h => by
                have := Nat.le_of_dvd (by omega) (HLE.out d h)
                omega
              clear b2 hd
              go_wp2
              try simp only [decide_eq_false (show ¬ (d : Int) < 1 by omega), decide_eq_false (show ¬ d < 1 by omega), decide_eq_false (show ¬ O ≤ d by omega), decide_eq_false (show ¬ (O : Int) ≤ (d : Int) by omega), Bool.or_self]
              obtain ⟨wo, hwo⟩ : ∃ wo : World, wo = wr := ⟨_, rfl⟩
              rw [← hwo] at HR2 hbb ⊢
              clear hwo wr
              go_loopw [1] (fun x wr => ∃ (Z : Nat), x = .int .i64 (Z : Int) ∧ Z ≤ 256 ∧ Hid (∀ y, y < Z → F.it fn d y = y) ∧ Below wo.heap.size wo wr) (fun x _ => 256 - (intOf x).toNat)
              case atStart => exact ⟨0, rfl, by omega, Lib.hid (fun y hy => absurd hy (Nat.not_lt_zero _)), Below.refl _ _⟩
              case round =>
                obtain ⟨Z, rfl, hZ, HZ, hb⟩ := hrel
                by_cases hZl : Z < 256
                · have hZi : (Z : Int) < 256 := by omega
                  obtain ⟨wp, hwp⟩ : ∃ wp : World, wp = wr := ⟨_, rfl⟩
                  rw [← hwp] at hb ⊢
                  clear hwp wr
                  go_wp2
                  go_loopw [9, 13] (fun y k wr => ∃ (K Y : Nat), k = .int .i64 (K : Int) ∧ y = .int .i64 (Y : Int) ∧ K ≤ d ∧ Hid (Y = F.it fn K Z) ∧ Below wo.heap.size wo wr) (fun _ k _ => d - (intOf k).toNat)
                  case atStart => exact ⟨0, Z, rfl, rfl, Nat.zero_le _, Lib.hid rfl, hb⟩
                  case round =>
                    obtain ⟨K2, Y2, rfl, rfl, hK2, HY2, hb⟩ := hrel
                    by_cases hlt2 : K2 < d
                    · have hY2 : Y2 < 256 := by rw [HY2.out]; exact HP.out.it_lt hZl K2
                      have HSS := Lib.hid (HRS.out wr Y2 hY2 (HR2.out.below hb (Nat.le_refl _)))
                      have HN : Hid (fn Y2 = F.it fn (K2 + 1) Z) := Lib.hid (by rw [HY2.out]; rfl)
                      obtain ⟨V, hV⟩ : ∃ V, fn Y2 = V := ⟨_, rfl⟩
                      rw [hV] at HSS HN
                      clear hV
                      have i1 : (K2 : Int) < d := by omega
                      go_wp2_with fail
                      refine HSS.out.mono ?_
                      rintro e w2 ⟨rfl, nn, rfl⟩
                      go_wp2
                      go_roundw
                      case rel => exact ⟨K2 + 1, V, by go_num, rfl, by omega, HN, below_drewN hb _⟩
                      case measure => simp [intOf]; omega
                    · have e2 : K2 = d := by omega
                      have hge2 : ¬ (K2 : Int) < d := by omega
                      have hYd : Hid (Y2 = F.it fn d Z) := Lib.hid (by rw [HY2.out, e2])
                      clear e2 hK2
                      by_cases hyz : Y2 = Z
                      · have q1 : ((Y2 : Int) != (Z : Int)) = false := by simp; omega
                        have HZ2 : Hid (∀ y, y < Z + 1 → F.it fn d y = y) := Lib.hid fun y hy => by
                          by_cases e : y = Z
                          · rw [e, ← hYd.out]; exact hyz
                          · exact HZ.out y (by omega)
                        clear hyz
                        go_wp2
                        go_roundw
                        case rel => exact ⟨Z + 1, by go_num, by omega, HZ2, hb⟩
                        case measure => simp [intOf]; omega
                      · have q1 : ((Y2 : Int) != (Z : Int)) = true := by simp; omega
                        go_wp2
                        go_ret
                        exact ⟨rfl, below_two hbb hb⟩
                · exact absurd (fun y hy => HZ.out y (by omega)) HLE2.out
            · have t5 : (((O % d : Nat) : Int) != 0) = true := by simp; omega
              obtain ⟨r, hrr⟩ : ∃ r, O % d = r := ⟨_, rfl⟩
              rw [hrr] at t1 t2 t5
              clear hd hrr
              go_wp2
              go_ret
              exact ⟨rfl, hbb⟩
    · obtain ⟨E, hE⟩ : ∃ E, fsE z0 a1 = E := ⟨_, rfl⟩
      rw [hE] at HC hx
      have hne : (E != 0) = true := by simpa using hx
      clear hE hx hf hr hrl hL hn
      go_enter Try.func7, Try.ntmps7
      go_wp2_with fail
      refine HO.out.mono ?_
      rintro e w1 ⟨O, rfl, hO, hb1⟩
      clear hO
      go_wp2_with fail
      refine (HC.out _ (HR.out.below hb1 (Nat.le_refl _))).mono ?_
      rintro e w' ⟨rfl, rfl⟩
      go_wp2
      go_ret
      exact ⟨rfl, hb1⟩
  · have HO := Lib.hid (feistel_Order_no a0 cap0 R z0 w len0 hr hL hl hrl hf)
    have hx : fsE z0 a1 ≠ 0 := fun h => hf (fsE_rnd (fsE_zero.1 h).1 (by omega) (by omega))
    obtain ⟨E, hE⟩ : ∃ E, fsE z0 a1 = E := ⟨_, rfl⟩
    obtain ⟨G, hG⟩ : ∃ E, fsE z0 0 = E := ⟨_, rfl⟩
    rw [hE] at HC hx
    rw [hG] at HO hf
    have hne : (E != 0) = true := by simpa using hx
    have hne2 : (G == 0) = false := by simpa using hf
    clear hE hG hx hf hr hrl hL
    go_enter Try.func7, Try.ntmps7
    go_wp2_with fail
    refine HO.out.mono ?_
    rintro e w1 ⟨rfl, hb1⟩
    go_wp2_with fail
    refine (HC.out _ (HR.out.below hb1 (Nat.le_refl _))).mono ?_
    rintro e w' ⟨rfl, rfl⟩
    go_wp2
    go_ret
    exact ⟨rfl, hb1⟩
end Go.Proofs.Ytabhmhojlhagcaa

/- The walk of PrattEach. -/
import Derived.Test.YtceocooppjfjjaaMake2
import Derived.Test.YtceocooppjfjjaaRefIs
namespace Go.Proofs.Ytceocooppjfjjaa
open Go.RowKit Go.Maps Go.WideMaps
set_option linter.unusedVariables false
set_option linter.unusedSimpArgs false
theorem last_is {D : DataW Value} {U : List Nat} {all : List Int} {n : Nat} (hK : Keysd D U all) (hU : ∀ x ∈ U, M.Pr x ∧ x ≤ n) (hn : Maps.has D (kL n) = true) : 0 < all.length ∧ all[all.length - 1]? = some (n : Int) := by
  have hm := (hK.mem n).2 hn
  obtain ⟨i, hi, hie⟩ := List.mem_iff_getElem.1 hm
  have hpos : 0 < all.length := by omega
  refine ⟨hpos, ?_⟩
  have hg := List.getElem?_eq_getElem (show all.length - 1 < all.length by omega)
  obtain ⟨N, hN, hNU⟩ := hK.nat _ (List.getElem_mem (show all.length - 1 < all.length by omega))
  have hle := (hU N hNU).2
  by_cases e : i = all.length - 1
  · subst e; rw [hg, hie]
  · have := (sorted_lt hK.sort (List.getElem?_eq_getElem hi) hg).2 (by omega)
    rw [hie, hN] at this
    omega
theorem srcOf_bd {D : DataW Value} {U : List Nat} {all : List Int} {L : Nat} (hL : all.length = L) (hL2 : L ≤ 64) (p : Nat) (hp2 : 2 ≤ p) (hp : p ≤ 1048576) : (srcOf all p).length * 8 ≤ 140737488355328 ∧ ∀ k ∈ srcOf all p, fits k := by
  have hln := fac_len (M.fac_spec (show 0 < p - 1 by omega))
  have hsl : (srcOf all p).length = (M.fac (p - 1)).length := by simp [srcOf, M.prs]
  refine ⟨by rw [hsl]; omega, fun k hk => ?_⟩
  obtain ⟨q, _, rfl⟩ := List.mem_map.1 hk
  have : ixOf all q ≤ all.length := by unfold ixOf; exact List.idxOf_le_length
  unfold fits
  omega
theorem lines_fit {D : DataW Value} {U : List Nat} {all : List Int} {n : Nat} {items : List Item} (hK : Keysd D U all) (hU : ∀ x ∈ U, M.Pr x ∧ x ≤ n) (hn : n ≤ 1048576) (hl : all.length ≤ 64) (h : ∀ i y, items[i]? = some y → LineOk all i y.1) : ∀ x ∈ items.map (·.1), fits x.n ∧ fits x.g ∧ x.src.length * 8 ≤ 140737488355328 ∧ ∀ k ∈ x.src, fits k := by
  intro x hx
  obtain ⟨y, hy, rfl⟩ := List.mem_map.1 hx
  obtain ⟨i, hi⟩ := List.mem_iff_getElem?.1 hy
  obtain ⟨p, h1, h2, h3, _, h5, h6⟩ := (h i y hi).ex
  obtain ⟨N, hN, hNU⟩ := hK.nat p (List.mem_of_getElem? h1)
  obtain rfl : p = N := by omega
  have hp := hU p hNU
  have hp2 := hp.1.1
  obtain ⟨s1, s2⟩ := srcOf_bd (D := D) (U := U) rfl hl p hp2 (by omega)
  rw [h2, h3]
  exact ⟨by unfold fits; omega, by unfold fits; omega, s1, s2⟩
theorem wr64 {y : Nat} (h : y ≤ 1048576) : wrap64 (y : Int) = (y : Int) := by unfold wrap64; omega
theorem wi64 {y : Nat} (h : y ≤ 1048576) : IntKind.i64.wrap (y : Int) = (y : Int) := IntWalk.i64_in _ (by omega)
theorem bits_lt {n len k : Nat} (h : 2 ^ (len - 1) ≤ n) (hk : n / 2 ^ k = 0) : len ≤ k := by
  have h1 : n < 2 ^ k := by
    rcases Nat.lt_or_ge n (2 ^ k) with h | h
    · exact h
    · have := Nat.div_pos h (Nat.pow_pos (by decide)); omega
  have := (Nat.pow_lt_pow_iff_right (a := 2) (by decide)).1 (Nat.lt_of_le_of_lt h h1)
  omega
theorem bits_pos {n k : Nat} (h : 0 < n / 2 ^ k) : k < n := by
  have h1 : 2 ^ k ≤ n := by
    refine Classical.byContradiction fun h2 => ?_
    rw [Nat.div_eq_of_lt (by omega)] at h; omega
  exact Nat.lt_of_lt_of_le Nat.lt_two_pow_self h1
set_option maxRecDepth 20000 in
set_option maxHeartbeats 6400000 in
theorem WPrattEach (a0 : Int) (w : World) (w0 : (Lit.int .i64 a0).wf = true) :
    Calls Try.prog 8 #[.int .i64 a0] w fun e w' => e = .returned (.bool true) ∧ Below w.heap.size w w' := by
  clear w0
  have HMo := Lib.hid fun W => keep_modulus a0 W
  by_cases hm : modB a0 = true
  · obtain ⟨m1, m2⟩ := modB_true hm
    rw [hm] at HMo
    have HIs := Lib.hid fun W => ref_Is a0 W (by omega)
    by_cases hp : prB a0 = true
    · rw [hp] at HIs
      obtain ⟨n, rfl⟩ := Int.eq_ofNat_of_zero_le (show 0 ≤ a0 by omega)
      have hpr : M.Pr n := by simpa using prB_true hp
      have HMk := Lib.hid (pratt_Make n w hpr (by omega))
      have hn20 : n ≤ 1048576 := by omega
      clear hm hp hpr
      go_enter Try.func8, Try.ntmps8
      go_wp2_with fail
      refine HMk.out.mono ?_
      rintro e w1 ⟨⟨D, U, all, items, a, c, rfl, hrn, hil, hK, hU, hsh, hhn, hok, hpw⟩, hb1⟩
      obtain ⟨hpos, hlast⟩ := last_is hK hU hhn
      obtain ⟨len, hlen⟩ : ∃ len, items.length = len := ⟨_, rfl⟩
      have hal : all.length = len := by omega
      have hUn : U.length ≤ 21 := by
        refine Classical.byContradiction fun h => ?_
        have : 2 ^ 21 ≤ 2 ^ (U.length - 1) := Nat.pow_le_pow_right (by decide) (by omega)
        have e : (2 : Nat) ^ 21 = 2097152 := by decide
        omega
      have hl21 : len ≤ 21 := by have := hK.len; omega
      have hchk := lines_check (L := items.map (·.1)) hK (fun x hx => ⟨(hU x hx).1, by have := (hU x hx).2; omega⟩) hsh (by rw [List.length_map]; omega) (fun i x hx => by
        rw [List.getElem?_map] at hx
        obtain ⟨y, hy, rfl⟩ := Option.map_eq_some_iff.1 hx
        exact hok i y hy)
      have HCk := Lib.hid fun W (hb : Below w1.heap.size w1 W) => pratt_Check a (fun i => (items.getD i default).2) (items.map (·.1)) len c W (hrn.below hb (Nat.le_refl _)) (by rw [List.length_map, hlen]) (by omega) (lines_fit hK hU hn20 (by omega) hok)
      rw [hchk] at HCk
      obtain ⟨y, hy⟩ : ∃ y, items[len - 1]? = some y := ⟨_, List.getElem?_eq_getElem (by omega)⟩
      obtain ⟨p, q1, q2, _⟩ := (hok _ y hy).ex
      rw [hal] at hlast
      have hpn : (p : Int) = (n : Int) := by rw [hlast] at q1; exact (Option.some.inj q1).symm
      obtain ⟨ba, oa, rfl, hcell⟩ := hrn.shape (by rw [List.length_map]; omega)
      have kl := (hcell (len - 1) y.1 (by rw [List.getElem?_map, hy]; rfl)).1
      rw [q2, hpn] at kl
      have HKl := Lib.hid kl
      have HB1 := Lib.hid hb1
      have HPW : Hid (2 ^ (len - 1) ≤ n) := Lib.hid (Nat.le_trans (Nat.pow_le_pow_right (by decide) (by have := hK.len; omega)) hpw)
      have hlen1 : 1 ≤ len := by omega
      rw [hlen]
      clear hrn hil hK hU hsh hhn hok hpw hpos hlast hlen hal hUn hchk hy q1 q2 hpn hcell kl hb1
      go_wp2_with fail
      refine (HMo.out _).mono ?_
      rintro e w2 ⟨rfl, rfl⟩
      go_wp2_with fail
      refine (HIs.out _).mono ?_
      rintro e w3 ⟨rfl, rfl⟩
      go_wp2_with fail
      refine (HCk.out _ (Below.refl _ _)).mono ?_
      rintro e w4 ⟨rfl, hb4⟩
      have HB4 := Lib.hid (below_two HB1.out hb4)
      have HK4 := Lib.hid (kept hb4 HKl.out (World.block_lt_of_cell? _ _ HKl.out))
      clear hb4
      go_wp2_with fail
      go_loopw [7, 8] (fun bv xv wr => ∃ k : Nat, bv = .int .i64 k ∧ xv = .int .i64 ((n / 2 ^ k : Nat) : Int) ∧ k ≤ n ∧ w4 = wr) (fun _ xv _ => (intOf xv).toNat)
      case atStart => exact ⟨0, rfl, by simp, Nat.zero_le _, rfl⟩
      case round =>
        obtain ⟨k, rfl, rfl, hk, rfl⟩ := hrel
        obtain ⟨x, hx⟩ : ∃ x, n / 2 ^ k = x := ⟨_, rfl⟩
        by_cases h0 : x = 0
        · have hlb : len ≤ k := bits_lt HPW.out (hx.trans h0)
          have hlb2 : (len : Int) ≤ k := by omega
          have hl1 : (1 : Int) ≤ len := by omega
          have f1 : IntKind.i64.wrap ((len : Int) - 1) = ((len - 1 : Nat) : Int) := (IntWalk.i64_in _ (by omega)).trans (by omega)
          have f2 : wrap64 ((len : Int) - 1) = ((len - 1 : Nat) : Int) := by unfold wrap64; omega
          have kl := HK4.out
          have hx0 : ¬ (0 : Int) < (x : Int) := by omega
          have hl2 : len - 1 < len := by omega
          obtain ⟨l1, hl1e⟩ : ∃ l, len - 1 = l := ⟨_, rfl⟩
          rw [hl1e] at f1 f2 kl hl2
          rw [hx]
          clear hx h0 hl1e
          go_wp2_with fail
          go_ret
          exact ⟨rfl, HB4.out⟩
        · have hx1 : (0 : Int) < (x : Int) := by omega
          have hkn : k < n := bits_pos (by rw [hx]; omega)
          have f1 : IntKind.i64.wrap ((k : Int) + 1) = (k : Int) + 1 := IntWalk.i64_in _ (by omega)
          obtain ⟨y, hy⟩ : ∃ y, x / 2 = y := ⟨_, rfl⟩
          have f2 : ((x : Int)).tdiv 2 = (y : Int) := by rw [Int.tdiv_eq_ediv_of_nonneg (by omega)]; omega
          have f3 : ((x : Int)) / 2 = (y : Int) := by omega
          have hxk : n / 2 ^ (k + 1) = y := by rw [Nat.pow_succ, ← Nat.div_div_eq_div_mul, hx, hy]
          have HXK := Lib.hid hxk
          have HX := Lib.hid hx
          have hyx : y < x := by rw [← hy]; exact Nat.div_lt_self (by omega) (by decide)
          have hxn : x ≤ n := by rw [← hx]; exact Nat.div_le_self _ _
          have f4 : wrap64 (y : Int) = (y : Int) := wr64 (Nat.le_trans (Nat.le_of_lt hyx) (Nat.le_trans hxn hn20))
          have f5 : IntKind.i64.wrap (y : Int) = (y : Int) := wi64 (Nat.le_trans (Nat.le_of_lt hyx) (Nat.le_trans hxn hn20))
          rw [hx]
          clear hx hxk hy
          go_wp2_with fail
          go_round
          case rel => exact ⟨k + 1, by go_num, congrArg (fun z : Nat => Value.int .i64 (z : Int)) HXK.out.symm, hkn, trivial⟩
          case measure =>
            have e := HX.out
            simp only [intOf, Int.toNat_natCast]
            omega
    · have hp2 : prB a0 = false := by simpa using hp
      rw [hp2] at HIs
      have HMk := Lib.hid (pratt_Make_not a0 w (by omega) (by omega) hp2)
      clear hm hp hp2
      go_enter Try.func8, Try.ntmps8
      go_wp2_with fail
      refine HMk.out.mono ?_
      rintro e w1 ⟨⟨t, ht, rfl⟩, hb1⟩
      have e1 : (t != 0) = true := by simpa using ht
      have e2 : (t == 0) = false := by simpa using ht
      clear ht
      go_wp2_with fail
      refine (HMo.out _).mono ?_
      rintro e w2 ⟨rfl, rfl⟩
      go_wp2_with fail
      refine (HIs.out _).mono ?_
      rintro e w3 ⟨rfl, rfl⟩
      go_wp2_with fail
      go_ret
      exact ⟨rfl, hb1⟩
  · have hm2 : modB a0 = false := by simpa using hm
    rw [hm2] at HMo
    have HMk := Lib.hid (pratt_Make_out a0 w (by
      refine Classical.byContradiction fun h => hm ?_
      simp [modB]; omega))
    clear hm hm2
    go_enter Try.func8, Try.ntmps8
    go_wp2_with fail
    refine HMk.out.mono ?_
    rintro e w1 ⟨⟨t, ht, rfl⟩, hb1⟩
    have e1 : (t != 0) = true := by simpa using ht
    have e2 : (t == 0) = false := by simpa using ht
    clear ht
    go_wp2_with fail
    refine (HMo.out _).mono ?_
    rintro e w2 ⟨rfl, rfl⟩
    go_wp2_with fail
    go_ret
    exact ⟨rfl, hb1⟩
end Go.Proofs.Ytceocooppjfjjaa

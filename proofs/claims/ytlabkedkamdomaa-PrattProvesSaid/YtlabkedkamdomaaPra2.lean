/- Contracts of package pratt: holds, Check. -/
import Derived.Test.YtlabkedkamdomaaPra
namespace Go.Proofs.Ytlabkedkamdomaa
open Go.RowKit
set_option linter.unusedVariables false
set_option linter.unusedSimpArgs false
theorem i64_info : (Try.prog.info? 2).map (fun i => (i.zero, i.size, i.bytes)) = some (some (.int .i64 0), 1, 8) := by kernel_rfl
theorem cell_newN (w : World) (v : Value) (T : TypeId) (hv : v.oneCell' = true) : ∀ (j : Nat) (u : Value), [v][j]? = some u → (w.alloc (.cells #[v] T)).cell? ((⟨w.heap.size, 0, none⟩ : Addr).add j) = some u := by
  intro j u h
  have hn := World.alloc_heap_new w (.cells #[v] T)
  match j, h with
  | 0, h => rw [show (⟨w.heap.size, 0, none⟩ : Addr).add 0 = ⟨w.heap.size, 0, none⟩ from rfl]; simp only [World.cell?]; rw [hn]; simpa using h
theorem scan_nil (L : List M.Ln) (i : Nat) (n left : Int) (ps : List Int) : M.scan L i n [] left ps = some (left, ps) := rfl
theorem scan_cons {L : List M.Ln} {i : Nat} {n k : Int} {t : List Int} {left : Int} {ps : List Int} {kN : Nat} {p : Int} (hk : k = (kN : Int)) (hi : kN < i) (hp : (L.getD kN default).n = p) (hd : (n - 1) % p = 0) :
    M.scan L i n (k :: t) left ps = M.scan L i n t (M.stripI left p) (ps ++ [p]) := by
  subst hk
  conv => lhs; unfold M.scan
  rw [if_neg (by omega), Int.toNat_natCast, hp, if_neg (by simpa using hd)]
theorem scan_none {L : List M.Ln} {i : Nat} {n k : Int} {t : List Int} {left : Int} {ps : List Int} {kN : Nat} {p : Int} (hk : k = (kN : Int)) (hp : (L.getD kN default).n = p) (hd : ¬ (n - 1) % p = 0) :
    M.scan L i n (k :: t) left ps = none := by
  subst hk
  conv => lhs; unfold M.scan
  split
  · rfl
  · rw [Int.toNat_natCast, hp, if_pos (by simpa using hd)]
theorem scan_far {L : List M.Ln} {i : Nat} {n k : Int} {t : List Int} {left : Int} {ps : List Int} (hk : k < 0 ∨ (i : Int) ≤ k) : M.scan L i n (k :: t) left ps = none := by
  conv => lhs; unfold M.scan
  rw [if_pos hk]
theorem line_of {L : List M.Ln} {i : Nat} {x : M.Ln} (h2 : ¬ x.n = 2) (a : 3 ≤ x.n) (b : x.n ≤ 1048576) (c : 1 ≤ x.g) (d : x.g < x.n) :
    M.lineB L i x = M.fin x.g x.n (M.scan L i x.n x.src (x.n - 1) []) := by
  unfold M.lineB
  have e1 : (x.n == 2) = false := by simpa using h2
  rw [e1, decide_eq_false (by omega), decide_eq_false (by omega), decide_eq_false (by omega), decide_eq_false (by omega)]
  simp
theorem line_far {L : List M.Ln} {i : Nat} {x : M.Ln} (h2 : ¬ x.n = 2) (h : x.n < 3 ∨ 1048576 < x.n ∨ x.g < 1 ∨ x.n ≤ x.g) : M.lineB L i x = false := by
  unfold M.lineB
  have e1 : (x.n == 2) = false := by simpa using h2
  have e2 : (decide (x.n < 3) || decide (1048576 < x.n) || decide (x.g < 1) || decide (x.n ≤ x.g)) = true := by simp; omega
  rw [e1, e2]; simp
theorem strip_next {l p : Nat} (hp : 2 ≤ p) (hl : 0 < l) (hd : l % p = 0) : M.stripI ((l / p : Nat) : Int) p = M.stripI l p ∧ 0 < l / p := by
  have h0 : 0 < l / p := Nat.div_pos (Nat.le_of_dvd hl (Nat.dvd_of_mod_eq_zero hd)) (by omega)
  refine ⟨?_, h0⟩
  unfold M.stripI
  rw [Int.toNat_natCast, Int.toNat_natCast, Int.toNat_natCast]
  obtain ⟨f, rfl⟩ : ∃ f, l = f + 1 := ⟨l - 1, by omega⟩
  have e : (M.strip (f + 1) p (f + 1)).2 = (M.strip f p ((f + 1) / p)).2 := by
    conv => lhs; unfold M.strip
    rw [if_pos hd]
  rw [e, M.strip_fuel hp ((f + 1) / p) f ((f + 1) / p) h0 (Nat.le_refl _) (by have := Nat.div_lt_self hl hp; omega)]
theorem strip_stop {l p : Nat} (hl : 0 < l) (hd : ¬ l % p = 0) : M.stripI (l : Int) p = l := by
  unfold M.stripI
  rw [Int.toNat_natCast, Int.toNat_natCast]
  obtain ⟨f, rfl⟩ : ∃ f, l = f + 1 := ⟨l - 1, by omega⟩
  unfold M.strip
  rw [if_neg hd]
set_option maxRecDepth 20000 in
set_option maxHeartbeats 4000000 in
theorem pratt_holds (a : Option Addr) (R : Nat → Option Addr × Nat) (L : List M.Ln) (len cap i : Nat) (w : World) (h : RowN w a R L) (hL : L.length = len) (hi : i < len) (hl64 : len ≤ 1048576)
    (hf : ∀ x ∈ L, fits x.n ∧ fits x.g ∧ x.src.length * 8 ≤ 140737488355328 ∧ ∀ k ∈ x.src, fits k) (hpr : ∀ j, j < i → M.PrI (L.getD j default).n) :
    Calls Try.prog 47 #[.slice a len cap, .int .i64 i] w fun e w' => e = .returned (.bool (M.holdB L i)) ∧ Below w.heap.size w w' := by
  obtain ⟨b, o, rfl, hc⟩ := h.shape (by omega)
  obtain ⟨x, hx⟩ : ∃ x, L[i]? = some x := ⟨_, List.getElem?_eq_getElem (by omega)⟩
  obtain ⟨k0, k1, k2⟩ := hc i x hx
  obtain ⟨f1, f2, f3, f4⟩ := hf x (List.mem_of_getElem? hx)
  have hrow := h.row i x hx
  have hB : M.holdB L i = M.lineB L i x := by unfold M.holdB; rw [List.getD_eq_getElem?_getD, hx]; rfl
  rw [hB]
  obtain ⟨K, hK⟩ : ∃ K, K = x.src.length := ⟨_, rfl⟩
  obtain ⟨ra, hra⟩ : ∃ y, y = (R i).1 := ⟨_, rfl⟩
  obtain ⟨rc, hrc⟩ : ∃ y, y = (R i).2 := ⟨_, rfl⟩
  rw [← hK, ← hra, ← hrc] at k2
  rw [← hK] at f3
  rw [← hra, ← hrc] at hrow
  clear hra hrc
  have HB := Lib.hid hB
  have HC := Lib.hid hc
  have HR := Lib.hid hrow
  have HP := Lib.hid hpr
  have HK := Lib.hid hK
  have HF := Lib.hid f4
  have HLL := Lib.hid hL
  unfold fits at f1 f2
  have hblt := World.block_lt_of_cell? w _ k0
  clear hB hc hrow hpr hK h hx hf f4 hL
  obtain ⟨n, hn⟩ : ∃ n, n = x.n := ⟨_, rfl⟩
  obtain ⟨g, hg⟩ : ∃ n, n = x.g := ⟨_, rfl⟩
  obtain ⟨RES, hRES⟩ : ∃ n, n = M.lineB L i x := ⟨_, rfl⟩
  rw [← hn] at f1 k0
  rw [← hg] at f2 k1
  rw [← hRES]
  by_cases e2 : n = 2
  · have HRES : Hid (RES = true) := Lib.hid (by rw [hRES]; unfold M.lineB; rw [← hn, e2]; rfl)
    clear hRES hn hg
    subst e2
    go_enter Try.func47, Try.ntmps47
    go_wp2
    go_ret
    exact ⟨ret_bool HRES.out.symm, (Below.refl _ _).alloc (Nat.le_refl _) _⟩
  have e2b : (n == 2) = false := by simpa using e2
  by_cases hbad : n < 3 ∨ 1048576 < n ∨ g < 1 ∨ n ≤ g
  · have HRES : Hid (RES = false) := Lib.hid (by rw [hRES]; exact line_far (by omega) (by omega))
    clear hRES hn hg
    by_cases b1 : n < 3
    · clear hbad
      go_enter Try.func47, Try.ntmps47
      go_wp2
      go_ret
      exact ⟨ret_bool HRES.out.symm, (Below.refl _ _).alloc (Nat.le_refl _) _⟩
    by_cases b2 : 1048576 < n
    · clear hbad
      go_enter Try.func47, Try.ntmps47
      go_wp2
      go_ret
      exact ⟨ret_bool HRES.out.symm, (Below.refl _ _).alloc (Nat.le_refl _) _⟩
    by_cases b3 : g < 1
    · clear hbad
      go_enter Try.func47, Try.ntmps47
      go_wp2
      go_ret
      exact ⟨ret_bool HRES.out.symm, (Below.refl _ _).alloc (Nat.le_refl _) _⟩
    · have b4 : n ≤ g := by omega
      clear hbad
      go_enter Try.func47, Try.ntmps47
      go_wp2
      go_ret
      exact ⟨ret_bool HRES.out.symm, (Below.refl _ _).alloc (Nat.le_refl _) _⟩
  have b1 : 3 ≤ n := by omega
  have b2 : n ≤ 1048576 := by omega
  have b3 : 1 ≤ g := by omega
  have b4 : g < n := by omega
  have HRES := Lib.hid (hRES.trans (line_of (L := L) (i := i) (x := x) (by omega) (by omega) (by omega) (by omega) (by omega)))
  have HN := Lib.hid hn
  have HG := Lib.hid hg
  clear hRES hn hg hbad
  have hn1 : IntKind.i64.wrap (n - 1) = n - 1 := IntWalk.i64_in _ (by omega)
  go_enter Try.func47, Try.ntmps47
  go_wp2
  rw [decide_eq_false (show ¬ n < 3 by omega), decide_eq_false (show ¬ 1048576 < n by omega), decide_eq_false (show ¬ g < 1 by omega), decide_eq_false (show ¬ n ≤ g by omega)]
  simp only [Bool.or_self]
  have hb0 : Below w.heap.size w (w.alloc (.cells #[.int .i64 n, .int .i64 g, .slice ra K rc] 47)) := (Below.refl _ _).alloc (Nat.le_refl _) _
  obtain ⟨w1, hw1⟩ : ∃ W, W = w.alloc (.cells #[.int .i64 n, .int .i64 g, .slice ra K rc] 47) := ⟨_, rfl⟩
  have x0 : w1.cell? ⟨w.heap.size, 0, none⟩ = some (.int .i64 n) := by rw [hw1]; simp [go_sem]
  have x1 : w1.cell? ⟨w.heap.size, 1, none⟩ = some (.int .i64 g) := by rw [hw1]; simp [go_sem]
  have z1 : w.heap.size < w1.heap.size := by rw [hw1]; simp
  rw [← hw1] at hb0 ⊢
  have HR1 := Lib.hid (HR.out.below hb0 (Nat.le_refl _))
  have HC1 : Hid (∀ (j : Nat) (y : M.Ln), L[j]? = some y → w1.cell? ⟨b, o + j * 3, none⟩ = some (.int .i64 y.n)) := Lib.hid fun j y hy => kept hb0 (HC.out j y hy).1 hblt
  clear hw1 HR HC k0 k1 k2
  obtain ⟨i0, hi0, hz0, hz1, hz2⟩ := info_parts i64_info
  have hu : Try.prog.underlying 62 = some (.slice 2) := by kernel_rfl
  go_loopw [6, 7, 44] (fun lf v ix wr => ∃ (I left : Nat) (pp : List Int), ix = .int .i64 (I : Int) ∧ I ≤ K ∧ lf = .int .i64 (left : Int) ∧ 1 ≤ left ∧ (left : Int) ≤ n - 1 ∧ Hid (M.scan L i x.n x.src (x.n - 1) [] = M.scan L i x.n (x.src.drop I) left pp) ∧ pp.length = I ∧
      Hid (∀ q ∈ pp, 1 ≤ q ∧ q ≤ 1048576) ∧ Below w1.heap.size w1 wr ∧ wr.ownsRow w1.heap.size 2 1 v pp.length (inV pp)) (fun _ _ ix _ => K - (intOf ix).toNat)
  case atStart =>
    refine ⟨0, (n - 1).toNat, [], rfl, Nat.zero_le _, by rw [Int.toNat_of_nonneg (by omega)], by omega, by omega, Lib.hid ?_, rfl, Lib.hid (fun q hq => by simp at hq), Below.refl _ _, World.ownsRow_nil _ _ _ _⟩
    rw [Int.toNat_of_nonneg (by omega), HN.out]; rfl
  case round =>
    obtain ⟨I, left, pp, rfl, hI, rfl, l1, l2, HS, hpl, HQ, hb, ho⟩ := hrel
    have hz := hb.size
    have y0 := kept hb x0 z1
    have y1 := kept hb x1 z1
    obtain ⟨Lp, hLp⟩ : ∃ Lp, pp.length = Lp := ⟨_, rfl⟩
    rw [hLp] at ho hpl
    have HLP := Lib.hid hLp
    have HPL := Lib.hid hpl
    have hpl2 : Lp ≤ I := Nat.le_of_eq hpl
    clear hLp hpl
    by_cases hIK : I < K
    · obtain ⟨k, hk⟩ : ∃ k, x.src[I]? = some k := ⟨_, List.getElem?_eq_getElem (by rw [← HK.out]; exact hIK)⟩
      obtain ⟨rb, ro, rfl, hcell⟩ := (HR1.out.below hb (Nat.le_refl _)).shape (by rw [← HK.out]; omega)
      have kk := hcell I k hk
      have hdrop : x.src.drop I = k :: x.src.drop (I + 1) := by
        obtain ⟨h1, h2⟩ := List.getElem?_eq_some_iff.1 hk
        rw [List.drop_eq_getElem_cons h1, h2]
      rw [hdrop] at HS
      have hfk := HF.out k (List.mem_of_getElem? hk)
      unfold fits at hfk
      clear hcell hk hdrop
      by_cases hk0 : k < 0
      · have HRS : Hid (RES = false) := Lib.hid (by rw [HRES.out, HS.out, scan_far (.inl hk0)]; rfl)
        clear HRES HS
        go_wp2
        go_ret
        exact ⟨ret_bool HRS.out.symm, below_two hb0 hb⟩
      obtain ⟨kN, rfl⟩ := Int.eq_ofNat_of_zero_le (show 0 ≤ k by omega)
      by_cases hki : i ≤ kN
      · have HRS : Hid (RES = false) := Lib.hid (by rw [HRES.out, HS.out, scan_far (.inr (by omega))]; rfl)
        clear HRES HS
        go_wp2
        go_ret
        exact ⟨ret_bool HRS.out.symm, below_two hb0 hb⟩
      obtain ⟨y, hy⟩ : ∃ y, L[kN]? = some y := ⟨_, List.getElem?_eq_getElem (by rw [HLL.out]; omega)⟩
      have hyd : L.getD kN default = y := by rw [List.getD_eq_getElem?_getD, hy]; rfl
      obtain ⟨p0, hp⟩ := HP.out kN (by omega)
      rw [hyd] at p0 hp
      have k3 := kept hb (HC1.out kN y hy) (Nat.lt_of_lt_of_le hblt (by exact hb0.size))
      obtain ⟨p, hpN⟩ := Int.eq_ofNat_of_zero_le p0
      rw [hpN] at hp k3
      rw [Int.toNat_natCast] at hp
      have hp2 := hp.1
      have HPN : Hid ((L.getD kN default).n = (p : Int)) := Lib.hid (by rw [hyd]; exact hpN)
      have HPP := Lib.hid hp
      clear hp hpN hyd hy p0
      have t1 : (n - 1).tmod (p : Int) = (n - 1) % (p : Int) := Int.tmod_eq_emod_of_nonneg (by omega)
      have t2 : ((p : Int) == 0) = false := by simp; omega
      have t3 : ¬ (p : Int) = 0 := by omega
      have t4 : ¬ p = 0 := by omega
      by_cases hdv : (n - 1) % (p : Int) = 0
      · obtain ⟨md, hmd⟩ : ∃ md, md = (n - 1) % (p : Int) := ⟨_, rfl⟩
        rw [← hmd] at t1
        have t5 : (md != 0) = false := by rw [hmd, hdv]; rfl
        have hpn : (p : Int) ≤ n - 1 := Int.le_of_dvd (by omega) (Int.dvd_of_emod_eq_zero hdv)
        have HDV := Lib.hid (HN.out ▸ hdv)
        have HMD := Lib.hid hmd
        have t6 : (n - 1) % (p : Int) = md := hmd.symm
        clear hmd hdv
        go_wp2_with (first
          | (at_builtin; refine wpList_append_own _ rfl _ _ 62 rfl w1.heap.size 2 i0 (.int .i64 0) 1 8 hu hi0 hz0 hz1 hz2 rfl (by decide) _ _ _ rfl (ho.alloc _) ⟨wr.heap.size, 0, none⟩ 1 1 [.int .i64 (p : Int)] rfl rfl (cell_newN _ _ _ rfl) (by simp [Value.oneCell']) (by unfold maxLen; omega) (by omega) (by simp; omega) ?_; intro v' w2 hown' hg2 hnil2; have kk2 := ((hb.alloc hz (.cells #[.int .i64 (p : Int)] 2)).grown hg2 (by simp; omega) (fun j hj => (ho.lt j hj).1)); have yy0 := kept kk2 x0 z1))
        obtain ⟨wi, hwi⟩ : ∃ wi : World, wi = w2 := ⟨_, rfl⟩
        go_loop [6] (fun lf => ∃ l : Nat, lf = .int .i64 (l : Int) ∧ 1 ≤ l ∧ l ≤ left ∧ Hid (M.stripI l p = M.stripI left p)) (fun lf => (intOf lf).toNat)
        case atStart => exact ⟨left, rfl, l1, Nat.le_refl _, Lib.hid rfl⟩
        case round =>
          obtain ⟨l, rfl, q1, q2, HST⟩ := hrel
          have d1 : (l : Int).tmod p = ((l % p : Nat) : Int) := by rw [Int.tmod_eq_emod_of_nonneg (by omega)]; norm_cast
          have d2 : (l : Int) % p = ((l % p : Nat) : Int) := by norm_cast
          have d3 : (l : Int).tdiv p = ((l / p : Nat) : Int) := by rw [Int.tdiv_eq_ediv_of_nonneg (by omega)]; norm_cast
          have d4 : (l : Int) / p = ((l / p : Nat) : Int) := by norm_cast
          by_cases hl0 : l % p = 0
          · obtain ⟨s1, s2⟩ := strip_next hp2 q1 hl0
            have s3 : l / p < l := Nat.div_lt_self q1 hp2
            have HS1 := Lib.hid (s1.trans HST.out)
            obtain ⟨y, hye⟩ : ∃ x, l / p = x := ⟨_, rfl⟩
            rw [hye] at d3 d4 s2 s3 HS1
            rw [hl0] at d1 d2
            clear hye s1
            go_wp2
            go_round
            case rel => exact ⟨y, by go_num, by omega, by omega, HS1⟩
            case measure => simp [intOf]; omega
          · have HS1 : Hid (M.stripI left p = l) := Lib.hid (by rw [← HST.out]; exact strip_stop q1 hl0)
            obtain ⟨y, hye⟩ : ∃ x, l % p = x := ⟨_, rfl⟩
            rw [hye] at d1 d2 hl0
            have d5 : ((y : Int) == 0) = false := by simp; omega
            clear hye
            go_wp2
            go_roundw
            case rel =>
              refine ⟨I + 1, l, pp ++ [(p : Int)], by go_num, by omega, rfl, q1, by omega, Lib.hid ?_, by rw [List.length_append, HLP.out, HPL.out]; rfl, Lib.hid (fun q hq => ?_), kk2, by rw [List.length_append, HLP.out]; simpa [inV] using hown'⟩
              · rw [HS.out, scan_cons rfl (by omega) HPN.out HDV.out, HS1.out]
              · rcases List.mem_append.1 hq with hq | hq
                · exact HQ.out q hq
                · rw [List.mem_singleton.1 hq]; omega
            case measure => simp [intOf]; omega
      · have t5 : ((n - 1) % (p : Int) != 0) = true := by simpa using hdv
        have HRS : Hid (RES = false) := Lib.hid (by rw [HRES.out, HS.out, scan_none rfl HPN.out (HN.out ▸ hdv)]; rfl)
        clear HRES HS
        obtain ⟨md, hmd⟩ : ∃ md, (n - 1) % (p : Int) = md := ⟨_, rfl⟩
        rw [hmd] at t1 t5
        go_wp2_with (first
          | (at_builtin; refine wpList_append_own _ rfl _ _ 62 rfl w1.heap.size 2 i0 (.int .i64 0) 1 8 hu hi0 hz0 hz1 hz2 rfl (by decide) _ _ _ rfl (ho.alloc _) ⟨wr.heap.size, 0, none⟩ 1 1 [.int .i64 (p : Int)] rfl rfl (cell_newN _ _ _ rfl) (by simp [Value.oneCell']) (by unfold maxLen; omega) (by omega) (by simp; omega) ?_; intro v' w2 hown' hg2 hnil2; have kk2 := ((hb.alloc hz (.cells #[.int .i64 (p : Int)] 2)).grown hg2 (by simp; omega) (fun j hj => (ho.lt j hj).1)); have yy0 := kept kk2 x0 z1))
        go_ret
        exact ⟨ret_bool HRS.out.symm, below_two hb0 kk2⟩
    · have e : I = K := by omega
      subst e
      obtain ⟨a', c', rfl, hrow⟩ := own_rowL (show wr.ownsRow w1.heap.size 2 1 u7 pp.length (inV pp) by rw [HLP.out]; exact ho)
      have HRS : Hid (RES = ((left : Int) == 1 && M.genB g n pp)) := Lib.hid (by rw [HRES.out, HS.out, HK.out, List.drop_length, scan_nil, HN.out, HG.out]; rfl)
      rw [HLP.out]
      have HRW := Lib.hid hrow
      clear HRES HS hrow ho
      by_cases h1 : left = 1
      · have h1b : ((left : Int) == 1) = true := by simp; omega
        have HGN := Lib.hid (pratt_generates g n a' c' pp Lp wr HLP.out HRW.out (by omega) (by omega) b2 HQ.out)
        obtain ⟨Y, hY⟩ : ∃ Y, M.genB g n pp = Y := ⟨_, rfl⟩
        rw [hY] at HGN HRS
        clear hY
        have HRS2 : Hid (RES = Y) := Lib.hid (by rw [HRS.out, h1b]; rfl)
        go_wp2_with (go_at_call 52; refine HGN.out.mono ?_; rintro e w' ⟨rfl, hb2⟩)
        go_ret
        exact ⟨ret_bool HRS2.out.symm, below_two (below_two hb0 hb) hb2⟩
      · have h2 : ((left : Int) == 1) = false := by simp; omega
        have HRS2 : Hid (RES = false) := Lib.hid (by rw [HRS.out, h2]; rfl)
        go_wp2
        go_ret
        exact ⟨ret_bool HRS2.out.symm, below_two hb0 hb⟩
theorem check_true {L : List M.Ln} (h : ∀ i, i < L.length → M.holdB L i = true) : ∀ i, i < L.length → M.PrI (L.getD i default).n := fun i => by
  induction i using Nat.strongRecOn with
  | ind i ih => intro hi; exact M.line_sound (fun j hj => ih j hj (by omega)) (h i hi)
/-- whether all lines hold -/
def checkB (L : List M.Ln) : Bool := (List.range L.length).all fun i => M.holdB L i
theorem check_stop {L : List M.Ln} {i : Nat} (hi : i < L.length) (h : M.holdB L i = false) : checkB L = false := by
  unfold checkB
  rw [Bool.eq_false_iff]
  intro hall
  have := List.all_eq_true.1 hall i (List.mem_range.2 hi)
  rw [h] at this; cases this
theorem check_done {L : List M.Ln} (h : ∀ i, i < L.length → M.holdB L i = true) : checkB L = true := List.all_eq_true.2 fun i hi => h i (List.mem_range.1 hi)
theorem check_prime {L : List M.Ln} (h : checkB L = true) {x : M.Ln} (hx : x ∈ L) : M.PrI x.n := by
  obtain ⟨i, hi⟩ := List.getElem?_of_mem hx
  have hl := (List.getElem?_eq_some_iff.1 hi).1
  have := check_true (fun j hj => List.all_eq_true.1 h j (List.mem_range.2 hj)) i hl
  rwa [List.getD_eq_getElem?_getD, hi] at this
theorem pratt_Check_long (a : Option Addr) (len cap : Nat) (w : World) (hl : 64 < len) (hl2 : len ≤ 9223372036854775807) :
    Calls Try.prog 30 #[.slice a len cap] w fun e w' => e = .returned (.tuple #[.bool false, .int .i64 1]) ∧ w = w' := by
  go_enter Try.func30, Try.ntmps30
  go_wp2
  go_ret2
  exact ⟨rfl, rfl⟩
set_option maxHeartbeats 1600000 in
theorem pratt_Check (a : Option Addr) (R : Nat → Option Addr × Nat) (L : List M.Ln) (len cap : Nat) (w : World) (h : RowN w a R L) (hL : L.length = len) (hl64 : len ≤ 64)
    (hf : ∀ x ∈ L, fits x.n ∧ fits x.g ∧ x.src.length * 8 ≤ 140737488355328 ∧ ∀ k ∈ x.src, fits k) :
    Calls Try.prog 30 #[.slice a len cap] w fun e w' => e = .returned (.tuple #[.bool (checkB L), .int .i64 0]) ∧ Below w.heap.size w w' := by
  have HR := Lib.hid h
  have HL := Lib.hid hL
  have HF := Lib.hid hf
  clear h hL hf
  go_enter Try.func30, Try.ntmps30
  go_wp2
  go_loopw [10] (fun ix wr => ∃ I : Nat, ix = .int .i64 (I : Int) ∧ I ≤ len ∧ Hid (∀ j, j < I → M.holdB L j = true) ∧ Below w.heap.size w wr) (fun ix _ => len - (intOf ix).toNat)
  case atStart => exact ⟨0, rfl, Nat.zero_le _, Lib.hid (fun j hj => absurd hj (Nat.not_lt_zero _)), Below.refl _ _⟩
  case round =>
    obtain ⟨I, rfl, hI, HT, hb⟩ := hrel
    by_cases hIl : I < len
    · have HC := Lib.hid (pratt_holds a R L len cap I wr (HR.out.below hb (Nat.le_refl _)) HL.out hIl (by omega) HF.out (fun j hj => by
        have hall : ∀ j, j < I → M.PrI (L.getD j default).n := fun j => by
          induction j using Nat.strongRecOn with
          | ind j ih => intro hj; exact M.line_sound (fun k hk => ih k hk (by omega)) (HT.out j hj)
        exact hall j hj))
      obtain ⟨Y, hY⟩ : ∃ Y, M.holdB L I = Y := ⟨_, rfl⟩
      rw [hY] at HC
      have HY := Lib.hid hY
      clear hY
      cases Y with
      | false =>
        go_wp2_with fail
        refine HC.out.mono ?_
        rintro e w' ⟨rfl, hb2⟩
        go_wp2
        go_ret2
        exact ⟨by rw [check_stop (by rw [HL.out]; exact hIl) HY.out]; rfl, below_two hb hb2⟩
      | true =>
        go_wp2_with fail
        refine HC.out.mono ?_
        rintro e w' ⟨rfl, hb2⟩
        go_wp2
        go_roundw
        case rel =>
          refine ⟨I + 1, by go_num, by omega, Lib.hid (fun j hj => ?_), below_two hb hb2⟩
          by_cases e : j = I
          · rw [e]; exact HY.out
          · exact HT.out j (by omega)
        case measure => simp [intOf]; omega
    · have e : I = len := by omega
      subst e
      go_wp2
      go_ret2
      exact ⟨by rw [check_done (fun j hj => HT.out j (by rw [← HL.out]; exact hj))]; rfl, hb⟩
end Go.Proofs.Ytlabkedkamdomaa

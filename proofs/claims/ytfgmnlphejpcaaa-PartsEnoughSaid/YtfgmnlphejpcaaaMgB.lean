/- Merged: XParN, XParO, XParP, XPrt8, XPrt7. -/
import Derived.Test.YtfgmnlphejpcaaaMgA
import Derived.Test.YtfgmnlphejpcaaaJoin
import Derived.Test.YtfgmnlphejpcaaaFew
/- Plain: rows of shares. -/
namespace Go.Proofs.Ytfgmnlphejpcaaa
set_option linter.unusedVariables false
set_option linter.unusedSimpArgs false
/-- what n parties have of a function -/
def shV (f : Int → Int) (p : Int) (n : Nat) : List Int := (List.range n).map fun i : Nat => f ((i : Int) + 1) % p
theorem shV_len (f : Int → Int) (p : Int) (n : Nat) : (shV f p n).length = n := by simp [shV]
theorem shV_get {f : Int → Int} {p : Int} {n i : Nat} (h : i < n) : (shV f p n)[i]? = some (f ((i : Int) + 1) % p) := by
  unfold shV
  rw [List.getElem?_map, List.getElem?_range h]; rfl
theorem shV_getD {f : Int → Int} {p : Int} {n i : Nat} (h : i < n) : (shV f p n).getD i 0 = f ((i : Int) + 1) % p := by
  rw [List.getD_eq_getElem?_getD, shV_get h]; rfl
theorem shV_rng {f : Int → Int} {p : Int} {n : Nat} (hp : 1 ≤ p) : ∀ x ∈ shV f p n, 0 ≤ x ∧ x < p := by
  intro x hx
  obtain ⟨i, _, rfl⟩ := List.mem_map.1 hx
  exact ⟨Int.emod_nonneg _ (by omega), Int.emod_lt_of_pos _ (by omega)⟩
theorem each_sh {F : Int → Int → Int} {f g h : Int → Int} {p : Int} {n : Nat} (e : ∀ x, F (f x % p) (g x % p) % p = h x % p) : eachL F p (shV f p n) (shV g p n) n = shV h p n := by
  refine List.ext_getElem? fun i => ?_
  by_cases hi : i < n
  · rw [eachL_get _ _ _ _ _ _ hi, shV_get hi, shV_getD hi, shV_getD hi, e]
  · rw [List.getElem?_eq_none (by rw [eachL_len]; omega), List.getElem?_eq_none (by rw [shV_len]; omega)]
theorem sh_add (f g : Int → Int) (p : Int) (n : Nat) : eachL (fun x y => x + y) p (shV f p n) (shV g p n) n = shV (fun x => f x + g x) p n :=
  each_sh fun x => by simp [← Int.add_emod]
theorem sh_mul (f g : Int → Int) (p : Int) (n : Nat) : eachL (fun x y => x * y) p (shV f p n) (shV g p n) n = shV (fun x => f x * g x) p n :=
  each_sh fun x => by rw [← Int.mul_emod]
theorem sh_lin (f g : Int → Int) (k p : Int) (n : Nat) : eachL (fun x y => x + k * y) p (shV f p n) (shV g p n) n = shV (fun x => f x + k * g x) p n :=
  each_sh fun x => by
    show (f x % p + k * (g x % p)) % p = (f x + k * g x) % p
    rw [Int.add_emod, Int.emod_emod, Int.mul_emod, Int.emod_emod, ← Int.mul_emod, ← Int.add_emod]
theorem sh_zero (p : Int) (n : Nat) : shV (fun _ => 0) p n = List.replicate n 0 := by
  refine List.ext_getElem? fun i => ?_
  by_cases hi : i < n
  · rw [shV_get hi, List.getElem?_replicate, if_pos hi]; simp
  · rw [List.getElem?_eq_none (by rw [shV_len]; omega), List.getElem?_eq_none (by simp; omega)]
theorem sh_const {c p : Int} (h : 0 ≤ c ∧ c < p) (n : Nat) : shV (fun _ => c) p n = List.replicate n c := by
  refine List.ext_getElem? fun i => ?_
  by_cases hi : i < n
  · rw [shV_get hi, List.getElem?_replicate, if_pos hi, Int.emod_eq_of_lt h.1 h.2]
  · rw [List.getElem?_eq_none (by rw [shV_len]; omega), List.getElem?_eq_none (by simp; omega)]
/-- the weights make a product of shares a share of the product -/
theorem mul_law {p : Int} (hpr : prB p = true) (hp : 2 ≤ p) {n t : Nat} (hn : (n : Int) < p) (ht : 2 * t + 1 ≤ n) {A B : Int → Int} (hA : PF p (t + 1) A) (hB : PF p (t + 1) B) {W : Int → Int}
    (hW : ∀ x ∈ xsN n, W x * Zx (xsN n) x x % p = Zx (xsN n) x 0 % p) {fs : Int → Int → Int} (hf : ∀ x ∈ xsN n, fs x 0 % p = A x * B x % p) :
    ((xsN n).map fun x => W x * fs x 0).sum % p = A 0 * B 0 % p := by
  have h1 : ((xsN n).map fun x => W x * fs x 0).sum % p = ((xsN n).map fun x => W x * (A x * B x)).sum % p :=
    sum_mod (F := fun x => W x * fs x 0) (G := fun x => W x * (A x * B x)) fun x hx => by
      show W x * fs x 0 % p = W x * (A x * B x) % p
      rw [Int.mul_emod, hf x hx, ← Int.mul_emod]
  rw [h1]
  exact lag_law hpr hp (xsN_nodup n) (fun x hx => by have := xsN_mem.1 hx; omega) (D := fun x => A x * B x) (w := W) ((PF.mul (by omega) hA hB).mono (by rw [xsN_len]; omega)) hW
theorem sum_step (n : Nat) (F : Int → Int) : ((xsN (n + 1)).map F).sum = ((xsN n).map F).sum + F ((n : Int) + 1) := by
  rw [xsN_step, List.map_append, List.sum_append]; simp
end Go.Proofs.Ytfgmnlphejpcaaa

/- Plain: what parties have, as points; what these open as. -/
namespace Go.Proofs.Ytfgmnlphejpcaaa
set_option linter.unusedVariables false
set_option linter.unusedSimpArgs false
def ptN (f : Int → Int) (p : Int) (n : Nat) : List (Int × Int) := (List.range n).map fun i : Nat => ((i : Int) + 1, f ((i : Int) + 1) % p)
theorem ptN_len (f : Int → Int) (p : Int) (n : Nat) : (ptN f p n).length = n := by simp [ptN]
theorem ptN_step (f : Int → Int) (p : Int) (n : Nat) : ptN f p (n + 1) = ptN f p n ++ [((n : Int) + 1, f ((n : Int) + 1) % p)] := by simp [ptN, List.range_succ]
theorem ptN_fst (f : Int → Int) (p : Int) (n : Nat) : (ptN f p n).map (·.1) = xsN n := by
  unfold ptN xsN
  rw [List.map_map]; rfl
theorem ptN_mem {f : Int → Int} {p : Int} {n : Nat} {v : Int × Int} (h : v ∈ ptN f p n) : 1 ≤ v.1 ∧ v.1 ≤ n ∧ v.2 = f v.1 % p := by
  obtain ⟨i, hi, rfl⟩ := List.mem_map.1 h
  have := List.mem_range.1 hi
  exact ⟨by show 1 ≤ (i : Int) + 1; omega, by show (i : Int) + 1 ≤ n; omega, rfl⟩
theorem wrongE_of {p : Int} {pts : List (Int × Int)} (h : primeE p = 0) (h2 : pts.length ≤ 13) (hr : ∀ v ∈ pts, 0 ≤ v.1 ∧ v.1 < p ∧ 0 ≤ v.2 ∧ v.2 < p) (hn : (pts.map (·.1)).Nodup) : wrongE p pts = 0 := by
  rw [wrongE_end h (by omega) (fun j v hv => by
    have := hr v (List.mem_of_getElem? hv)
    simp [badP, badB]; omega), if_pos hn]
theorem ptN_good {f : Int → Int} {p : Int} {n : Nat} (h : primeE p = 0) (h2 : n ≤ 13) (h3 : (n : Int) < p) : wrongE p (ptN f p n) = 0 := by
  refine wrongE_of h (by rw [ptN_len]; exact h2) (fun v hv => ?_) (by rw [ptN_fst]; exact xsN_nodup n)
  obtain ⟨h1, h2, h4⟩ := ptN_mem hv
  rw [h4]
  exact ⟨by omega, by omega, Int.emod_nonneg _ (by omega), Int.emod_lt_of_pos _ (by omega)⟩
/-- points of a polynomial of no more numbers open as its value at 0 -/
theorem open_law {p : Int} (hpr : prB p = true) (hp : 2 ≤ p) {f : Int → Int} {pts : List (Int × Int)} {A : List Int} (hT : TPost p pts A) (hf : PF p pts.length f) (hr : ∀ v ∈ pts, 0 ≤ v.1 ∧ v.1 < p) (hn : (pts.map (·.1)).Nodup) (hv : ∀ v ∈ pts, v.2 = f v.1 % p) : valL p A 0 = f 0 % p := by
  have h := PF.uniq hpr hp ((PF.of hT.ar).mono hT.an) hf (pts.map (·.1)) hn (fun x hx => by
    obtain ⟨v, hv, rfl⟩ := List.mem_map.1 hx
    exact hr v hv) (by simp) (fun x hx => by
    obtain ⟨v, hvm, rfl⟩ := List.mem_map.1 hx
    show valL p A v.1 % p = f v.1 % p
    rw [hT.hit v hvm, hv v hvm, Int.emod_emod]) 0
  rw [← h]
  show valL p A 0 = valL p A 0 % p
  rw [valL_ev, Int.emod_emod]
end Go.Proofs.Ytfgmnlphejpcaaa

/- Plain: Lagrange at 0, as the reference sums it; differences over a growing list. -/
namespace Go.Proofs.Ytfgmnlphejpcaaa
set_option linter.unusedVariables false
set_option linter.unusedSimpArgs false
theorem lag_law2 {p : Int} (hpr : prB p = true) (hp : 2 ≤ p) {xs : List Int} (hx : xs.Nodup) (hxr : ∀ x ∈ xs, 0 ≤ x ∧ x < p) {D K : Int → Int} (hD : PF p xs.length D)
    (hK : ∀ x ∈ xs, K x * Zx xs x x % p = D x * Zx xs x 0 % p) : (xs.map K).sum % p = D 0 % p := by
  have hv : ∀ x, ∃ v : Int, x ∈ xs → v * Zx xs x x % p = 1 := fun x => by
    by_cases h : x ∈ xs
    · obtain ⟨v, hv⟩ := unit_inv hpr hp (Zx_unit hpr hp hxr h)
      exact ⟨v, fun _ => hv⟩
    · exact ⟨0, fun h' => absurd h' h⟩
  obtain ⟨v, hv⟩ := Classical.axiomOfChoice hv
  rw [← lag_law hpr hp hx hxr (D := D) (w := fun x => v x * Zx xs x 0) hD (fun x hxm => by
    show v x * Zx xs x 0 * Zx xs x x % p = Zx xs x 0 % p
    rw [show v x * Zx xs x 0 * Zx xs x x = Zx xs x 0 * (v x * Zx xs x x) by grind, Int.mul_emod, hv x hxm, Int.mul_one, Int.emod_emod])]
  refine sum_mod fun x hxm => ?_
  show K x % p = v x * Zx xs x 0 * D x % p
  have e1 : K x % p = K x * (v x * Zx xs x x) % p := by rw [Int.mul_emod, hv x hxm, Int.mul_one, Int.emod_emod]
  rw [e1, show K x * (v x * Zx xs x x) = K x * Zx xs x x * v x by grind, Int.mul_emod, hK x hxm, ← Int.mul_emod]
  congr 1
  grind
theorem Zx_snoc {xs : List Int} {z x t : Int} : Zx (xs ++ [z]) x t = if z = x then Zx xs x t else Zx xs x t * (z - t) := by
  unfold Zx
  rw [List.filter_append]
  by_cases h : z = x
  · rw [if_pos h]; simp [h]
  · rw [if_neg h, List.filter_cons_of_pos (by simpa using h), List.filter_nil, List.map_append, prodL_append]
    rw [show prodL (List.map (fun y => y - t) [z]) = z - t from Int.mul_one _]
/-- one factor more, in the reference's product -/
theorem ref_step {p K X x i y A B : Int} (hi : i * (X - x) % p = 1) (h : K * A % p = y * B % p) : (K * X % p * i % p) * (A * (X - x)) % p = y * (B * (X - 0)) % p := by
  have e1 : (K * X % p * i % p) * (A * (X - x)) % p = K * X * i * (A * (X - x)) % p := by
    rw [Int.mul_emod, Int.emod_emod, Int.mul_emod (K * X % p) i, Int.emod_emod, ← Int.mul_emod (K * X) i, ← Int.mul_emod]
  rw [e1, show K * X * i * (A * (X - x)) = K * A * X * (i * (X - x)) by grind, Int.mul_emod, hi, Int.mul_one, Int.emod_emod, Int.mul_emod, h, ← Int.mul_emod]
  congr 1
  grind
end Go.Proofs.Ytfgmnlphejpcaaa

/- parts.Open. -/
namespace Go.Proofs.Ytfgmnlphejpcaaa
open Go.RowKit
set_option linter.unusedVariables false
set_option linter.unusedSimpArgs false
set_option maxRecDepth 20000 in
set_option maxHeartbeats 3200000 in
theorem parts_Open (p : Int) (t n : Nat) (f : Int → Int) (a : Option Addr) (c : Nat) (w : World) (hpr : primeE p = 0) (ht : t ≤ 4) (hnt : n = 2 * t + 1) (hn : (n : Int) < p) (hf : PF p (t + 1) f) (h : RowL w a c (shV f p n)) :
    Calls Try.prog 35 #[.int .i64 p, .int .i64 t, .slice a n c] w fun e w' => e = .returned (.tuple #[.int .i64 (f 0 % p), .int .i64 0]) ∧ Below w.heap.size w w' := by
  have hpp := primeE_zero hpr
  obtain ⟨i0, hi, hz0, hz1, hz2⟩ := info_parts point_info
  have hu : Try.prog.underlying 39 = some (.slice 43) := by kernel_rfl
  have HCh := Lib.hid fun W => poly_Check p none 0 [] W (RowL.nil W) (by simp)
  simp only [List.length_nil, polyE_nil, hpr] at HCh
  have HPa := Lib.hid fun W => parts_parties p t W
  rw [show partiesB p t = true by simp [partiesB]; omega] at HPa
  have HO := Lib.hid fun W (hb : Below w.heap.size w W) => parts_out p a c (shV f p n) W (h.below hb (Nat.le_refl _)) (by rw [shV_len]; omega)
  rw [shV_len, show (shV f p n).any (badB p) = false by
    rw [List.any_eq_false]; intro x hx; have := shV_rng (f := f) (n := n) (show 1 ≤ p by omega) x hx; simp [badB]; omega] at HO
  have HJ := Lib.hid fun aa ca W (h : RowP W aa ca (ptN f p n)) => share_Join p aa ca (ptN f p n) W h (ptN_len f p n) (ptN_good hpr (by omega) hn) (fun v hv => by have := ptN_mem hv; omega)
  have HLaw := Lib.hid fun A (hT : TPost p (ptN f p n) A) => open_law hpp.2.2 hpp.1 hT (hf.mono (by rw [ptN_len]; omega)) (fun v hv => by have := ptN_mem hv; omega) (by rw [ptN_fst]; exact xsN_nodup n) (fun v hv => (ptN_mem hv).2.2)
  have HR := Lib.hid h
  have f1 : IntKind.i64.wrap (2 * (t : Int)) = 2 * (t : Int) := IntWalk.i64_in _ (by omega)
  have f2 : IntKind.i64.wrap (2 * (t : Int) + 1) = (n : Int) := by rw [IntWalk.i64_in _ (by omega)]; omega
  have f3 : wrap64 (2 * (t : Int)) = 2 * (t : Int) := by unfold wrap64; omega
  have f4 : wrap64 (2 * (t : Int) + 1) = (n : Int) := by unfold wrap64; omega
  have f5 : (n : Int) = 2 * (t : Int) + 1 := by omega
  have hn9 : n ≤ 9 := by omega
  clear h hf hpr hpp hnt
  go_enter Try.func35, Try.ntmps35
  go_wp2_with fail
  refine (HCh.out _).mono ?_
  rintro e w1 ⟨rfl, hb1⟩
  have HC := Lib.hid (HO.out w1 hb1)
  have HB1 := Lib.hid hb1
  clear hb1
  go_wp2_with fail
  refine (HPa.out _).mono ?_
  rintro e w2 ⟨rfl, rfl⟩
  go_wp2_with fail
  refine HC.out.mono ?_
  rintro e w3 ⟨rfl, hb3⟩
  have HB3 := Lib.hid (below_two HB1.out hb3)
  clear hb3 HC
  go_wp2_with fail
  go_loopw [9, 34] (fun lv iv wr => ∃ I : Nat, iv = .int .i64 I ∧ I ≤ n ∧ Hid (Below w.heap.size w wr) ∧ Hid (wr.ownsRow w.heap.size 43 2 lv I (flatI (ptN f p I)))) (fun _ iv _ => n - (intOf iv).toNat)
  case atStart => exact ⟨0, rfl, by omega, HB3, Lib.hid (World.ownsRow_nil _ _ _ _)⟩
  case round =>
    obtain ⟨I, rfl, hI, HB, HOW⟩ := hrel
    by_cases hIe : I = n
    · subst hIe
      obtain ⟨aa, ca, rfl, hrp⟩ := own_rowP (by rw [ptN_len]; exact HOW.out)
      rw [ptN_len]
      have HC := Lib.hid (HJ.out aa ca wr hrp)
      go_wp2_with fail
      refine HC.out.mono ?_
      rintro e w4 ⟨⟨A, rfl, hA⟩, hb4⟩
      have hbb := below_two HB.out hb4
      have hl := HLaw.out A hA
      obtain ⟨v, hv⟩ : ∃ v, valL p A 0 = v := ⟨_, rfl⟩
      rw [hv] at hl ⊢
      clear hA hv
      go_wp2_with fail
      go_ret2
      exact ⟨rfl, hbb⟩
    · have hI2 : (I : Int) < n := by omega
      have hI3 : I < n := by omega
      obtain ⟨b1, o1, rfl, hc1⟩ := (HR.out.below HB.out (Nat.le_refl _)).shape (by rw [shV_len]; omega)
      have kx := hc1 I _ (shV_get hI3)
      obtain ⟨y, hy⟩ : ∃ y, f ((I : Int) + 1) % p = y := ⟨_, rfl⟩
      have HST : Hid (flatI (ptN f p (I + 1)) = flatI (ptN f p I) ++ [.int .i64 ((I : Int) + 1), .int .i64 y]) := Lib.hid (by rw [ptN_step, flatI_append, hy]; rfl)
      rw [hy] at kx
      have hown := HOW.out
      have hz := HB.out.size
      have g1 : IntKind.i64.wrap ((I : Int) + 1) = (I : Int) + 1 := IntWalk.i64_in _ (by omega)
      clear hc1 hy
      go_wp2_with (first
        | (at_builtin; refine wpList_append_own _ rfl _ _ 39 rfl w.heap.size 43 i0 (.agg #[.int .i64 0, .int .i64 0]) 2 16 hu hi hz0 hz1 hz2 rfl (by decide) _ _ _ rfl (hown.alloc _) ⟨wr.heap.size, 0, none⟩ 1 1 [.int .i64 ((I : Int) + 1), .int .i64 y] rfl rfl (cell_two_new _ _ _ _) (by simp [Value.oneCell']) (by unfold maxLen; omega) (by omega) (by simp; omega) ?_; intro v' w2 hown' hg2 hnil2; have kk2 := ((HB.out.alloc hz (.cells #[.int .i64 ((I : Int) + 1), .int .i64 y] 43)).grown hg2 (by simp; omega) (fun j hj => (hown.lt j hj).1))))
      go_round
      case rel => exact ⟨I + 1, by go_num, by omega, Lib.hid kk2, Lib.hid (by rw [HST.out]; exact hown')⟩
      case measure => simp [intOf]; omega
end Go.Proofs.Ytfgmnlphejpcaaa

/- The reference's GatesCheck answers some number. -/
namespace Go.Proofs.Ytfgmnlphejpcaaa
open Go.RowKit
set_option linter.unusedVariables false
set_option linter.unusedSimpArgs false
set_option maxRecDepth 20000 in
set_option maxHeartbeats 12800000 in
theorem ref_GatesCheck (p : Int) (a b : Option Addr) (c d : Nat) (gs : List Ga) (ins : List Int) (w : World) (h1 : RowGa w a gs) (h2 : RowL w b d ins) (l1 : gs.length ≤ 9223372036854775807) (l2 : ins.length ≤ 9223372036854775807) :
    Calls Try.prog 34 #[.int .i64 p, .slice a gs.length c, .slice b ins.length d] w fun e w' => (∃ E : Int, e = .returned (.int .i64 E)) ∧ Below w.heap.size w w' := by
  have HP := Lib.hid fun W => ref_PrimeCheck p W
  have HR := Lib.hid h1
  have HI := Lib.hid h2
  obtain ⟨m, hm⟩ : ∃ m, ins.length = m := ⟨_, rfl⟩
  obtain ⟨N, hN⟩ : ∃ m, gs.length = m := ⟨_, rfl⟩
  have HM := Lib.hid hm
  have HN := Lib.hid hN
  rw [hm] at l2 ⊢
  rw [hN] at l1 ⊢
  obtain ⟨E, hE⟩ : ∃ E, primeE p = E := ⟨_, rfl⟩
  rw [hE] at HP
  clear h1 h2 hm hN hE
  by_cases h0 : E = 0
  · subst h0
    by_cases g1 : 60 < N
    · have d1 : (60 : Int) < N := by omega
      go_enter Try.func34, Try.ntmps34
      go_wp2_with fail
      refine (HP.out _).mono ?_
      rintro e w1 ⟨rfl, hq1⟩
      have hb1 : Below w.heap.size w w1 := by rw [← hq1]; exact Below.refl _ _
      clear hq1
      go_wp2_with fail
      go_ret
      exact ⟨⟨_, rfl⟩, hb1⟩
    · by_cases g2 : 60 < m
      · have d1 : ¬ (60 : Int) < N := by omega
        have d2 : (60 : Int) < m := by omega
        go_enter Try.func34, Try.ntmps34
        go_wp2_with fail
        refine (HP.out _).mono ?_
        rintro e w1 ⟨rfl, hq1⟩
        have hb1 : Below w.heap.size w w1 := by rw [← hq1]; exact Below.refl _ _
        clear hq1
        go_wp2_with fail
        go_ret
        exact ⟨⟨_, rfl⟩, hb1⟩
      · have d1 : ¬ (60 : Int) < N := by omega
        have d2 : ¬ (60 : Int) < m := by omega
        go_enter Try.func34, Try.ntmps34
        go_wp2_with fail
        refine (HP.out _).mono ?_
        rintro e w1 ⟨rfl, hq1⟩
        have hb1 : Below w.heap.size w w1 := by rw [← hq1]; exact Below.refl _ _
        clear hq1
        have HB1 := Lib.hid hb1
        clear hb1
        go_wp2_with fail
        go_loopw [27] (fun iv wr => ∃ I : Nat, iv = .int .i64 I ∧ I ≤ m ∧ Hid (Below w.heap.size w wr)) (fun iv _ => m - (intOf iv).toNat)
        case atStart => exact ⟨0, rfl, by omega, HB1⟩
        case round =>
          obtain ⟨I, rfl, hI, HB⟩ := hrel
          by_cases hIe : I = m
          · subst hIe
            go_wp2_with fail
            go_loopw [41] (fun iv wr => ∃ I : Nat, iv = .int .i64 I ∧ I ≤ N ∧ Hid (Below w.heap.size w wr)) (fun iv _ => N - (intOf iv).toNat)
            case atStart => exact ⟨0, rfl, by omega, HB⟩
            case round =>
              clear HB hI
              obtain ⟨J, rfl, hJ, HB⟩ := hrel
              by_cases hJe : J = N
              · subst hJe
                go_wp2_with fail
                go_ret
                exact ⟨⟨_, rfl⟩, HB.out⟩
              · have hJ2 : (J : Int) < N := by omega
                have hJ3 : J < N := by omega
                obtain ⟨g, hg⟩ : ∃ g, gs[J]? = some g := ⟨_, List.getElem?_eq_getElem (by rw [HN.out]; exact hJ3)⟩
                obtain ⟨bb, o, rfl, hcell⟩ := HR.out.shape (by rw [HN.out]; omega)
                obtain ⟨q0, q1, q2, q3⟩ := hcell J g hg
                have zb : bb < w.heap.size := World.block_lt_of_cell? _ _ q0
                have k0 := kept HB.out q0 zb
                have k1 := kept HB.out q1 zb
                have k2 := kept HB.out q2 zb
                have k3 := kept HB.out q3 zb
                have hz := HB.out.size
                clear hcell q0 q1 q2 q3 hg hJ
                obtain ⟨gk, ga, gb, gn⟩ := g
                simp only at k0 k1 k2 k3
                have HBB := Lib.hid (HB.out.alloc hz (.cells #[.int .i64 gk, .int .i64 ga, .int .i64 gb, .int .i64 gn] 80))
                by_cases c1 : gk < 1
                · go_wp2_with fail
                  go_ret
                  exact ⟨⟨_, rfl⟩, HBB.out⟩
                · by_cases c2 : 4 < gk
                  · go_wp2_with fail
                    go_ret
                    exact ⟨⟨_, rfl⟩, HBB.out⟩
                  · have hk : gk = 1 ∨ gk = 2 ∨ gk = 3 ∨ gk = 4 := by omega
                    clear c1 c2
                    rcases hk with rfl | rfl | rfl | rfl
                    · by_cases a1 : ga < 0
                      · go_wp2_with fail
                        go_ret
                        exact ⟨⟨_, rfl⟩, HBB.out⟩
                      · by_cases a2 : (I : Int) ≤ ga
                        · go_wp2_with fail
                          go_ret
                          exact ⟨⟨_, rfl⟩, HBB.out⟩
                        · go_wp2_with fail
                          go_round
                          case rel => exact ⟨J + 1, by go_num, by omega, HBB⟩
                          case measure => simp [intOf]; omega
                    · by_cases n1 : gn < 0
                      · go_wp2_with fail
                        go_ret
                        exact ⟨⟨_, rfl⟩, HBB.out⟩
                      · by_cases n2 : p ≤ gn
                        · go_wp2_with fail
                          go_ret
                          exact ⟨⟨_, rfl⟩, HBB.out⟩
                        · go_wp2_with fail
                          go_round
                          case rel => exact ⟨J + 1, by go_num, by omega, HBB⟩
                          case measure => simp [intOf]; omega
                    · by_cases a1 : ga < 0
                      · go_wp2_with fail
                        go_ret
                        exact ⟨⟨_, rfl⟩, HBB.out⟩
                      · by_cases a2 : (J : Int) ≤ ga
                        · go_wp2_with fail
                          go_ret
                          exact ⟨⟨_, rfl⟩, HBB.out⟩
                        · by_cases b1 : gb < 0
                          · go_wp2_with fail
                            go_ret
                            exact ⟨⟨_, rfl⟩, HBB.out⟩
                          · by_cases b2 : (J : Int) ≤ gb
                            · go_wp2_with fail
                              go_ret
                              exact ⟨⟨_, rfl⟩, HBB.out⟩
                            · go_wp2_with fail
                              go_round
                              case rel => exact ⟨J + 1, by go_num, by omega, HBB⟩
                              case measure => simp [intOf]; omega
                    · by_cases a1 : ga < 0
                      · go_wp2_with fail
                        go_ret
                        exact ⟨⟨_, rfl⟩, HBB.out⟩
                      · by_cases a2 : (J : Int) ≤ ga
                        · go_wp2_with fail
                          go_ret
                          exact ⟨⟨_, rfl⟩, HBB.out⟩
                        · by_cases b1 : gb < 0
                          · go_wp2_with fail
                            go_ret
                            exact ⟨⟨_, rfl⟩, HBB.out⟩
                          · by_cases b2 : (J : Int) ≤ gb
                            · go_wp2_with fail
                              go_ret
                              exact ⟨⟨_, rfl⟩, HBB.out⟩
                            · go_wp2_with fail
                              go_round
                              case rel => exact ⟨J + 1, by go_num, by omega, HBB⟩
                              case measure => simp [intOf]; omega
          · have hI2 : (I : Int) < m := by omega
            have hI3 : I < m := by omega
            obtain ⟨b', o', rfl, hc⟩ := HI.out.shape (by rw [HM.out]; omega)
            obtain ⟨y, hy⟩ : ∃ y, ins[I]? = some y := ⟨_, List.getElem?_eq_getElem (by rw [HM.out]; exact hI3)⟩
            have r0 := hc I y hy
            have kr := kept HB.out r0 (World.block_lt_of_cell? _ _ r0)
            clear hc hy r0
            by_cases y1 : y < 0
            · go_wp2_with fail
              go_ret
              exact ⟨⟨_, rfl⟩, HB.out⟩
            · by_cases y2 : p ≤ y
              · go_wp2_with fail
                go_ret
                exact ⟨⟨_, rfl⟩, HB.out⟩
              · go_wp2_with fail
                go_round
                case rel => exact ⟨I + 1, by go_num, by omega, HB⟩
                case measure => simp [intOf]; omega
  · have e1 : (E != 0) = true := by simpa using h0
    have e2 : (E == 0) = false := by simpa using h0
    go_enter Try.func34, Try.ntmps34
    go_wp2_with fail
    refine (HP.out _).mono ?_
    rintro e w1 ⟨rfl, hq1⟩
    have hb1 : Below w.heap.size w w1 := by rw [← hq1]; exact Below.refl _ _
    clear hq1
    go_wp2_with fail
    go_ret
    exact ⟨⟨_, rfl⟩, hb1⟩
end Go.Proofs.Ytfgmnlphejpcaaa

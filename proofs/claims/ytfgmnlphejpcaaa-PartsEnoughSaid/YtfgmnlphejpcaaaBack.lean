/- The contract of the iterator of slices.Backward over ints; poly.Value, poly.At. -/
import Derived.Test.YtfgmnlphejpcaaaRB
import Derived.Test.YtfgmnlphejpcaaaTim
import Derived.Test.YtfgmnlphejpcaaaRows
namespace Go.Proofs.Ytfgmnlphejpcaaa
open Go.RowKit Go.Shelf
attribute [local go_sem] Oper.semAt_some
set_option linter.unusedVariables false
set_option linter.unusedSimpArgs false
/-- what Backward hands over -/
def backL (xs : List Int) : List (Nat × Int) := (List.range xs.length).reverse.map fun i => (i, co xs i)
def encB (x : Nat × Int) : Array Value := #[.int .i64 x.1, .int .i64 x.2]
theorem backL_len (xs : List Int) : (backL xs).length = xs.length := by simp [backL]
theorem backL_at {xs : List Int} {K : Nat} (h : K < xs.length) : (backL xs)[xs.length - (K + 1)]? = some (K, co xs K) := by
  unfold backL
  rw [List.getElem?_map, List.getElem?_reverse (by simp; omega), List.length_range, show xs.length - 1 - (xs.length - (K + 1)) = K by omega, List.getElem?_range h]
  rfl
theorem backL_step {xs : List Int} {K : Nat} (h : K < xs.length) : (backL xs).take (xs.length - (K + 1)) ++ [(K, co xs K)] = (backL xs).take (xs.length - K) := by
  rw [show xs.length - K = xs.length - (K + 1) + 1 by omega, List.take_add_one, backL_at h]; rfl
set_option maxRecDepth 20000 in
set_option maxHeartbeats 2000000 in
theorem back_iter (a : Option Addr) (c Bn : Nat) (xs : List Int) (hl : xs.length ≤ 1048576) :
    IterG Try.prog 83 Bn encB (backL xs) (fun W => Boxed W Bn 22 (.slice a xs.length c) ∧ RowL W a c xs) := by
  intro n l J Jx W hRd hY h0
  have HRd := Lib.hid hRd
  have HY := Lib.hid hY
  have HST := Lib.hid fun K => backL_step (xs := xs) (K := K)
  have HAll := Lib.hid (show (backL xs).take (xs.length - 0) = backL xs by rw [Nat.sub_zero, ← backL_len, List.take_length])
  have HN := Lib.hid (show (backL xs).take (xs.length - xs.length) = [] by rw [Nat.sub_self, List.take_zero])
  have hR0 := hRd _ _ h0
  have hc := hR0.1.cell
  have hfz := hR0.1.frozen
  have H0 := Lib.hid h0
  clear hR0 hRd hY h0
  obtain ⟨L, hL⟩ : ∃ L, xs.length = L := ⟨_, rfl⟩
  have HL := Lib.hid hL
  rw [hL] at hl HRd HST HAll HN hc
  clear hL
  refine callsIn_of_wp Try.func83 rfl trivial ?_ rfl
  simp only [Try.ntmps83, List.size_toArray, List.length_cons, List.length_nil, Nat.reduceAdd, Nat.reduceSub, Array.replicate_succ, Array.replicate_zero, List.push_toArray, List.append_toArray, List.nil_append, List.cons_append]
  gi_wp2
  gi_loopw [3] (fun s wr => ∃ K : Nat, s = .int .i64 ((K : Int) - 1) ∧ K ≤ L ∧ J ((backL xs).take (L - K)) wr) (fun s _ => (intOf s + 1).toNat)
  case atStart => exact ⟨L, rfl, Nat.le_refl _, by rw [HN.out]; exact H0.out⟩
  case round =>
    obtain ⟨K, rfl, hK, hj⟩ := hrel
    by_cases hK0 : K = 0
    · subst hK0
      have HJ := Lib.hid hj
      clear hj
      gi_wp2
      go_end0
      exact ⟨⟨_, rfl⟩, .inl (by rw [← HAll.out]; exact HJ.out)⟩
    · obtain ⟨k, rfl⟩ : ∃ k, K = k + 1 := ⟨K - 1, by omega⟩
      clear hK0
      rw [show (((k + 1 : Nat) : Int) - 1) = (k : Int) by omega]
      obtain ⟨hb1, hr1⟩ := HRd.out _ _ hj
      have hc1 := hb1.cell
      have hfz1 := hb1.frozen
      obtain ⟨b, o, rfl, hcell⟩ := hr1.shape (by rw [HL.out]; omega)
      obtain ⟨x, hx⟩ : ∃ x, xs[k]? = some x := ⟨_, List.getElem?_eq_getElem (by rw [HL.out]; omega)⟩
      have kx := hcell k x hx
      have hst := HST.out k (by omega)
      rw [show co xs k = x by unfold co; rw [List.getD_eq_getElem?_getD, hx]; rfl] at hst
      have hpre : (backL xs).take (L - (k + 1)) ++ [(k, x)] <+: backL xs := by rw [hst]; exact List.take_prefix _ _
      obtain ⟨fn, tmps, assign, body, hy, hR⟩ := HY.out _ (k, x) _ hj hpre
      have HR := Lib.hid hR
      have HS := Lib.hid hst
      have HP := Lib.hid hpre
      clear hR hst hcell hx hb1 hr1 hj hpre
      dsimp only [encB] at hy
      gi_wp2
      refine ⟨fun h => (by cases h), HR.out.mono ?_⟩
      rintro e W3 (⟨rfl, hJ3⟩ | ⟨rfl, hJx3⟩)
      · gi_wp2
        go_roundw
        case rel => exact ⟨k, by go_num, by omega, by rw [← HS.out]; exact hJ3⟩
        case measure => simp [intOf]
      · gi_wp2
        refine bodyPost_ret (results_none rfl _ _ _) rfl ?_
        exact ⟨⟨_, rfl⟩, .inr ⟨_, HP.out, hJx3⟩⟩
set_option maxHeartbeats 800000 in
theorem slices_Backward (a : Option Addr) (len c : Nat) (w : World) :
    Calls Try.prog 68 #[.slice a len c] w fun e w' => e = .returned (.func (.func 83) #[] #[.pointer (some ⟨w.heap.size, 0, none⟩)]) ∧ w' = w.alloc (.cells #[.slice a len c] 22) := by
  go_enter Try.func68, Try.ntmps68
  go_wp2
  go_ret
  exact ⟨rfl, rfl⟩
/-- the world while Value runs -/
structure ValI (w : World) (p x : Int) (v : Value) (W : World) (y : Int) : Prop where
  bel : Below w.heap.size w W
  p : Boxed W w.heap.size 2 (.int .i64 p)
  x : Boxed W (w.heap.size + 1) 2 (.int .i64 x)
  y : Boxed W (w.heap.size + 2) 2 (.int .i64 y)
  v : Boxed W (w.heap.size + 3) 22 v
theorem ValI.alloc {w W : World} {p x y : Int} {v : Value} (h : ValI w p x v W y) (o : Obj) : ValI w p x v (W.alloc o) y := ⟨h.bel.alloc h.bel.size o, h.p.alloc o, h.x.alloc o, h.y.alloc o, h.v.alloc o⟩
theorem ValI.put {w W : World} {p x y : Int} {v : Value} (h : ValI w p x v W y) {k : Nat} (hk : w.heap.size + 4 ≤ k) (o : Obj) : ValI w p x v (W.putObj k o) y :=
  ⟨below_put h.bel (by omega) o, boxed_put h.p (by omega) o, boxed_put h.x (by omega) o, boxed_put h.y (by omega) o, boxed_put h.v (by omega) o⟩
theorem ValI.res {w W : World} {p x y : Int} {v : Value} (h : ValI w p x v W y) (z : Int) : ValI w p x v (W.setCell ⟨w.heap.size + 2, 0, none⟩ (.int .i64 z)) z :=
  ⟨h.bel.setCell (p := ⟨w.heap.size + 2, 0, none⟩) (by simp) _, boxed_other h.p (by omega) _, boxed_other h.x (by omega) _, h.y.set _, boxed_other h.v (by omega) _⟩
theorem ValI.drew {w W : World} {p x y : Int} {v : Value} (h : ValI w p x v W y) : ValI w p x v W.drew y := ⟨h.bel.drew, h.p, h.x, h.y, h.v⟩
/-- Horner -/
def horT (p x : Int) (pre : List (Nat × Int)) : Int := pre.foldl (fun y e => (y * x + e.2) % p) 0
theorem horT_snoc (p x : Int) (pre : List (Nat × Int)) (e : Nat × Int) : horT p x (pre ++ [e]) = (horT p x pre * x + e.2) % p := by simp [horT]
theorem horT_rng {p x : Int} (hp : 1 ≤ p) (pre : List (Nat × Int)) : 0 ≤ horT p x pre ∧ horT p x pre < p := by
  rcases List.eq_nil_or_concat pre with rfl | ⟨q, e, rfl⟩
  · simp [horT]; omega
  · rw [List.concat_eq_append, horT_snoc]; exact ⟨Int.emod_nonneg _ (by omega), Int.emod_lt_of_pos _ (by omega)⟩
def valL (p : Int) (xs : List Int) (x : Int) : Int := horT p x (backL xs)
theorem backL_mem {xs : List Int} {e : Nat × Int} (h : e ∈ backL xs) : e.2 ∈ xs := by
  unfold backL at h
  obtain ⟨i, hi, rfl⟩ := List.mem_map.1 h
  have hi2 : i < xs.length := by simpa using hi
  show co xs i ∈ xs
  rw [co_in hi2]; exact List.getElem_mem _
theorem mul_bd2 {p a b : Int} (hp2 : p ≤ 251) (h1 : 0 ≤ a) (h2 : a < p) (h3 : 0 ≤ b) (h4 : b < p) : 0 ≤ a * b ∧ a * b ≤ 63001 :=
  ⟨Int.mul_nonneg h1 h3, Int.le_trans (Int.mul_le_mul (show a ≤ 251 by omega) (show b ≤ 251 by omega) h3 (by omega)) (by omega)⟩
set_option maxRecDepth 20000 in
set_option maxHeartbeats 3200000 in
theorem poly_Value (p x : Int) (a : Option Addr) (c : Nat) (xs : List Int) (w : World) (hp : 1 ≤ p) (hp2 : p ≤ 251) (hx : 0 ≤ x) (hx2 : x < p) (h : RowL w a c xs) (hl : xs.length ≤ 1048576) (hr : ∀ y ∈ xs, 0 ≤ y ∧ y < p) :
    Calls Try.prog 40 #[.int .i64 p, .slice a xs.length c, .int .i64 x] w fun e w' => e = .returned (.int .i64 (valL p xs x)) ∧ Below w.heap.size w w' := by
  have HIt := Lib.hid fun Bn => back_iter a c Bn xs hl
  have HR := Lib.hid h
  have HM := Lib.hid fun (pre : List (Nat × Int)) (e : Nat × Int) (h : pre ++ [e] <+: backL xs) => hr e.2 (backL_mem (h.subset (by simp)))
  obtain ⟨L, hL⟩ : ∃ L, xs.length = L := ⟨_, rfl⟩
  rw [hL] at hl HIt ⊢
  clear hL h hr
  refine (callsIn_wide (n := 0)).1 ?_
  refine callsIn_of_wp_marks Try.func40 rfl trivial ?_ rfl
  simp only [Try.ntmps40, List.size_toArray, List.length_cons, List.length_nil, Nat.reduceAdd, Nat.reduceSub, Array.replicate_succ, Array.replicate_zero, List.push_toArray, List.append_toArray, List.nil_append, List.cons_append]
  gi_wp2
  refine ⟨trivial, rfl, (callsIn_wide.2 (slices_Backward _ _ _ _)).mono ?_⟩
  rintro e w' ⟨rfl, rfl⟩
  gi_wp2
  refine wp_range_gen (gf := 83) (R := fun W => Boxed W (w.heap.size + 3) 22 (.slice a L c) ∧ RowL W a c xs) rfl (enters_of Try.func83 (by kernel_rfl) rfl) (HIt.out _) (fun _ => rfl)
    (fun pre W => ValI w p x (.slice a L c) W (horT p x pre))
    (fun pre W => False) ?sal ?spu (fun _ _ _ _ _ _ _ _ h => h) ?hR ?i0
    (fun e => { tmps := #[.int .i64 p, .slice a L c, .int .i64 x, .pointer (some ⟨w.heap.size, 0, none⟩), undef, .pointer (some ⟨w.heap.size + 1, 0, none⟩), .int .i64 0, .pointer (some ⟨w.heap.size + 2, 0, none⟩), undef, .int .i64 e.2, .slice a L c,
      .func (.func 83) #[] #[.pointer (some ⟨w.heap.size + 3, 0, none⟩)], .int .i64 e.1, .int .i64 e.2, undef, undef, undef, undef, undef, undef, undef, undef], defers := [] }) ?assign ?body ?done (fun _ _ _ _ h => h.elim)
  case sal => exact fun pre W o h => h.alloc o
  case spu => 
    simp only [World.size_alloc]
    exact fun pre W k o _ hk _ _ h => h.put (by omega) o
  case hR => exact fun pre W h => ⟨h.v, HR.out.below h.bel (Nat.le_refl _)⟩
  case i0 =>
    have b0 := Boxed.new w 2 (.int .i64 p)
    have b1 := Boxed.new (w.alloc (.cells #[.int .i64 p] 2)) 2 (.int .i64 x)
    have b2 := Boxed.new ((w.alloc (.cells #[.int .i64 p] 2)).alloc (.cells #[.int .i64 x] 2)) 2 (.int .i64 0)
    have b3 := Boxed.new (((w.alloc (.cells #[.int .i64 p] 2)).alloc (.cells #[.int .i64 x] 2)).alloc (.cells #[.int .i64 0] 2)) 22 (.slice a L c)
    simp only [World.size_alloc] at b1 b2 b3
    exact ⟨((((Below.refl _ _).alloc (Nat.le_refl _) _).alloc (by simp) _).alloc (by simp; omega) _).alloc (by simp; omega) _, ((b0.alloc _).alloc _).alloc _, (b1.alloc _).alloc _, b2.alloc _, b3⟩
  case assign =>
    intro l e W K hK
    dsimp only [encB]
    gi_wp2
    exact hK
  case body =>
    rintro l pre e W hI hpre
    have hk := HM.out pre e hpre
    have hy := horT_rng (x := x) hp pre
    have HS := Lib.hid (horT_snoc p x pre e)
    obtain ⟨Y, hY⟩ : ∃ Y, horT p x pre = Y := ⟨_, rfl⟩
    rw [hY] at hI hy HS
    obtain ⟨k, hke⟩ : ∃ k, e.2 = k := ⟨_, rfl⟩
    rw [hke] at hk HS ⊢
    have cp := hI.p.cell
    have cx := hI.x.cell
    have cy := hI.y.cell
    have fy := hI.y.frozen
    have HI := Lib.hid hI
    clear hI hY hke hpre
    obtain ⟨m1, m2⟩ := mul_bd2 hp2 hy.1 hy.2 hx hx2
    have r1 := Int.emod_nonneg (Y * x + k) (show p ≠ 0 by omega)
    have r2 := Int.emod_lt_of_pos (Y * x + k) (show 0 < p by omega)
    have z0 : (p == 0) = false := by simp; omega
    have z1 : ¬ p = 0 := by omega
    have q1 : (Y * x + k).tmod p = (Y * x + k) % p := Int.tmod_eq_emod_of_nonneg (by omega)
    have f2 : IntKind.i64.wrap (Y * x) = Y * x := IntWalk.i64_in _ (by omega)
    have f3 : IntKind.i64.wrap (Y * x + k) = Y * x + k := IntWalk.i64_in _ (by omega)
    have f4 : IntKind.i64.wrap ((Y * x + k) % p) = (Y * x + k) % p := IntWalk.i64_in _ (by omega)
    gi_wp2
    refine ⟨KeepsOthers.setCell _ _ _, ?_⟩
    show ValI w p x _ _ _
    rw [HS.out]
    exact HI.out.res _
  case done =>
    rintro D W hI hK hD
    simp only [World.size_alloc] at hD
    have cy := hI.y.cell
    have HI := Lib.hid hI
    clear hI
    gi_wp2
    refine ⟨by simp, .inl ⟨_, _, rfl, run_takeDeferred hK, ?_⟩⟩
    have hI5 := HI.out.put (show w.heap.size + 4 ≤ D by omega) (.deferred none)
    refine ⟨.int .i64 (valL p xs x), ?_, rfl, hI5.bel⟩
    simp [results, Try.f40, go_sem, valL]
end Go.Proofs.Ytfgmnlphejpcaaa

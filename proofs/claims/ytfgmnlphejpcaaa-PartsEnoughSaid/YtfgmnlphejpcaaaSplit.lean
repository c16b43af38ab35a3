/- The contract of share.Split. -/
import Derived.Test.YtfgmnlphejpcaaaCatL
import Derived.Test.YtfgmnlphejpcaaaKeep
import Derived.Test.YtfgmnlphejpcaaaBack
import Derived.Test.YtfgmnlphejpcaaaOver
import Derived.Maps.AppendAt
namespace Go.Proofs.Ytfgmnlphejpcaaa
open Go.RowKit Go.Maps
set_option linter.unusedVariables false
set_option linter.unusedSimpArgs false
theorem point_info : (Try.prog.info? 43).map (fun i => (i.zero, i.size, i.bytes)) = some (some (.agg #[.int .i64 0, .int .i64 0]), 2, 16) := by kernel_rfl
theorem cell_two_new (w : World) (x y : Value) (t : TypeId) : ∀ j u, [x, y][j]? = some u → (w.alloc (.cells #[x, y] t)).cell? ((⟨w.heap.size, 0, none⟩ : Addr).add j) = some u := by
  intro j u h
  have hn := World.alloc_heap_new w (.cells #[x, y] t)
  match j, h with
  | 0, h => rw [show (⟨w.heap.size, 0, none⟩ : Addr).add 0 = ⟨w.heap.size, 0, none⟩ from rfl]; simp only [World.cell?]; rw [hn]; simpa using h
  | 1, h => rw [show (⟨w.heap.size, 0, none⟩ : Addr).add 1 = ⟨w.heap.size, 1, none⟩ from rfl]; simp only [World.cell?]; rw [hn]; simpa using h
/-- the shares -/
def ptsV (p : Int) (xs : List Int) : Nat → List Value
  | 0 => []
  | I + 1 => ptsV p xs I ++ [.int .i64 ((I : Int) + 1), .int .i64 (valL p xs ((I : Int) + 1))]
theorem ptsV_len (p : Int) (xs : List Int) : ∀ I, (ptsV p xs I).length = 2 * I
  | 0 => rfl
  | I + 1 => by simp [ptsV, ptsV_len p xs I]; omega
theorem split_c (p x : Int) (b : Nat) (w : World) (hb : w.cell? ⟨b, 0, none⟩ = some (.int .i64 p)) :
    Calls Try.prog 52 #[.int .i64 x, .pointer (some ⟨b, 0, none⟩)] w fun e w' => e = .returned (.bool (badB p x)) ∧ Below w.heap.size w w' := by
  by_cases h : x < 0
  · have e : badB p x = true := by simp [badB]; omega
    rw [e]
    clear e
    go_enter Try.func52, Try.ntmps52
    go_wp2
    go_ret
    exact ⟨rfl, Below.refl _ _⟩
  · have e : badB p x = decide (p ≤ x) := by simp [badB]; omega
    rw [e]
    clear e
    go_enter Try.func52, Try.ntmps52
    go_wp2
    go_ret
    exact ⟨ret_bool (by simp), Below.refl _ _⟩
/-- may a secret be split so -/
structure GoodS (p s : Int) (more : List Int) (n : Int) : Prop where
  pr : primeE p = 0
  len : more.length ≤ 12
  rng : (s :: more).any (badB p) = false
  n0 : 0 ≤ n
  np : n < p
theorem GoodS.all {p s : Int} {more : List Int} {n : Int} (h : GoodS p s more n) : ∀ x ∈ s :: more, 0 ≤ x ∧ x < p := by
  intro x hx
  have := List.any_eq_false.1 h.rng x hx
  simp [badB] at this
  omega
theorem polyE_nil (p : Int) : polyE p [] = primeE p := by
  unfold polyE
  split
  · rfl
  · rename_i h; simp at h; simp [h]
set_option maxRecDepth 100000 in
set_option maxHeartbeats 6400000 in
theorem share_Split (p s : Int) (n : Nat) (a : Option Addr) (c : Nat) (more : List Int) (w : World) {L : Nat} (g : GoodS p s more n) (h : RowL w a c more) (eL : more.length = L) :
    Calls Try.prog 27 #[.int .i64 p, .int .i64 s, .slice a L c, .int .i64 n] w fun e w' =>
      (∃ v, e = .returned (.tuple #[v, .int .i64 0]) ∧ w'.ownsRow w.heap.size 43 2 v n (ptsV p (s :: more) n)) ∧ Below w.heap.size w w' := by
  have hp := primeE_zero g.pr
  have HCh := Lib.hid fun w => poly_Check p none 0 [] w (RowL.nil w) (by simp)
  simp only [List.length_nil, polyE_nil, g.pr] at HCh
  have HR := Lib.hid h
  have HCat := Lib.hid fun (b : Nat) (a1 : Option Addr) w' (hb0 : b < w'.heap.size) (k1 : w'.cell? ⟨b, 0, none⟩ = some (.slice a1 [s].length 1)) (k2 : w'.cell? ⟨b, 1, none⟩ = some (.slice a more.length c)) (h1 : RowL w' a1 1 [s]) (h2 : RowL w' a c more) => slices_ConcatL b a1 a 1 c [s] more w' hb0 k1 k2 h1 h2 (by simp) (by have := g.len; simp; omega)
  have HC := Lib.hid fun (a2 : Option Addr) (c2 : Nat) W (hr : RowL W a2 c2 (s :: more)) (b : Nat) (hbc : W.cell? ⟨b, 0, none⟩ = some (.int .i64 p)) =>
    contains_longs 52 #[.pointer (some ⟨b, 0, none⟩)] (enters_of Try.func52 (by kernel_rfl) rfl) (badB p) a2 c2 (s :: more) W hr (by have := g.len; simp; omega)
      (fun W' x hb' _ => split_c p x b W' ((hb'.cell (p := ⟨b, 0, none⟩) (World.block_lt_of_cell? W _ hbc)).trans hbc))
  rw [g.rng] at HC
  have HV := Lib.hid fun (a2 : Option Addr) (c2 : Nat) W (x : Int) (hr : RowL W a2 c2 (s :: more)) (hx : 0 ≤ x) (hx2 : x < p) => poly_Value p x a2 c2 (s :: more) W (by omega) hp.2.1 hx hx2 hr (by have := g.len; simp; omega) g.all
  have HE := Lib.hid eL
  have hL : L ≤ 12 := by rw [← eL]; exact g.len
  have hnp := g.np
  have p2 := hp.2.1
  simp only [List.length_cons, List.length_nil, eL, Nat.zero_add] at HCat HC HV
  obtain ⟨xs, hxs⟩ : ∃ xs, s :: more = xs := ⟨_, rfl⟩
  rw [hxs] at HC HV ⊢
  simp only [List.cons_append, List.nil_append, hxs] at HCat
  have HPS := Lib.hid fun I => show ptsV p xs (I + 1) = ptsV p xs I ++ [.int .i64 ((I : Int) + 1), .int .i64 (valL p xs ((I : Int) + 1))] from rfl
  have HXL : Hid (xs.length = L + 1) := Lib.hid (by rw [← hxs, ← eL]; rfl)
  clear g h eL hp hxs
  obtain ⟨i0, hi, hz0, hz1, hz2⟩ := info_parts point_info
  have hu : Try.prog.underlying 39 = some (.slice 43) := by kernel_rfl
  have hmf : ∀ (fn : Fn) (first cap : Array Value) (w : World), (Instr.makeFunc fn first cap).run Try.prog w = .ok (.func fn first cap) w := fun _ _ _ _ => rfl
  go_enter Try.func27, Try.ntmps27
  go_wp2_with fail
  refine (HCh.out _).mono ?_
  rintro e w1 ⟨rfl, hb1⟩
  have z1 := hb1.size
  simp at z1
  have k0 := kept hb1 (b := w.heap.size) (o := 0) (v := .int .i64 p) (by simp [go_sem]) (by simp [go_sem])
  replace hb1 := below_two ((Below.refl _ _).alloc (Nat.le_refl _) _) hb1
  have HR1 := Lib.hid (HR.out.below hb1 (Nat.le_refl _))
  go_wp2_with fail
  refine (HCat.out (w1.heap.size + 1) (some ⟨w1.heap.size, 0, none⟩) _ (by simp) (by simp [go_sem]) (by simp [go_sem]) ((rowL_new w1 s).below (alloc_below _ _) (Nat.le_refl _)) ((HR1.out.below (alloc_below _ _) (Nat.le_refl _)).below (alloc_below _ _) (Nat.le_refl _))).mono ?_
  rintro e w3 ⟨v, rfl, hb3, hown⟩
  have hA := below_two (below_two (alloc_below w1 _) (alloc_below _ _)) hb3
  have k3 := kept hA k0 (by omega)
  have hbw := below_two hb1 hA
  have z3 := hA.size
  rw [show 1 + L = xs.length by rw [HXL.out]; omega] at hown
  obtain ⟨a3, c3, rfl, hr3⟩ := own_rowL hown
  rw [HXL.out]
  clear hown hA k0 hb1 hb3 HR1 HCat HCh HR
  go_wp2_with fail
  refine (HC.out a3 c3 w3 hr3 w.heap.size k3).mono ?_
  rintro e w4 ⟨rfl, hb4⟩
  have k4 := kept hb4 k3 (by omega)
  have HR4 := Lib.hid (hr3.below hb4 (Nat.le_refl _))
  have hbx := below_two hbw hb4
  have z4 := hb4.size
  have hz : w.heap.size < w4.heap.size := by omega
  have K4 := Lib.hid k4
  clear hr3 k3 hbw HC z1 z3
  go_wp2
  go_loopw [13, 12] (fun x v wr => ∃ I : Nat, x = .int .i64 ((I : Int) + 1) ∧ I ≤ n ∧ Below w4.heap.size w4 wr ∧ wr.ownsRow w4.heap.size 43 2 v I (ptsV p xs I)) (fun x _ _ => n + 1 - (intOf x).toNat)
  case atStart => exact ⟨0, rfl, Nat.zero_le _, Below.refl _ _, World.ownsRow_nil _ _ _ _⟩
  case round =>
    clear k4
    obtain ⟨I, rfl, hI, hb, hr⟩ := hrel
    by_cases hlt : I < n
    · have k5 := kept hb K4.out hz
      have HVv := Lib.hid (HV.out a3 c3 wr ((I : Int) + 1) (HR4.out.below hb (Nat.le_refl _)) (by omega) (by omega))
      have hps := HPS.out I
      obtain ⟨y, hy⟩ : ∃ y, valL p xs ((I : Int) + 1) = y := ⟨_, rfl⟩
      rw [hy] at HVv hps
      have HPI := Lib.hid hps
      clear hps hy
      go_wp2_with fail
      refine HVv.out.mono ?_
      rintro e w5 ⟨rfl, hb5⟩
      have hb6 := below_two hb hb5
      have hr6 := own_keep hr hb5
      have z5 := hb6.size
      clear hr hb hb5 k5
      go_wp2_with (first
        | (at_builtin; refine wpList_append_own _ rfl _ _ 39 rfl w4.heap.size 43 i0 (.agg #[.int .i64 0, .int .i64 0]) 2 16 hu hi hz0 hz1 hz2 rfl (by decide) _ _ _ rfl (hr6.alloc _) ⟨w5.heap.size, 0, none⟩ 1 1 [.int .i64 ((I : Int) + 1), .int .i64 y] rfl rfl (cell_two_new _ _ _ _) (by simp [Value.oneCell']) (by unfold maxLen; omega) (by omega) (by simp; omega) ?_; intro v' w2 hown' hg2 hnil2))
      have s2 := hg2.size
      simp at s2
      go_round
      case rel =>
        refine ⟨I + 1, by go_num, by omega, ?_, ?_⟩
        · exact (hb6.alloc (by omega) _).grown hg2 (by simp; omega) (fun j hj => (hr6.lt j hj).1)
        · rw [HPI.out]; exact hown'
      case measure => simp [intOf]; omega
    · obtain rfl : I = n := by omega
      go_wp2
      go_ret2
      exact ⟨⟨_, rfl, own_lower hr (by omega)⟩, below_two hbx hb⟩
end Go.Proofs.Ytfgmnlphejpcaaa

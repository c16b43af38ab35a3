/- The contract of walsh.fly. -/
import Derived.Test.YtabhmhojlhagcaaDoorOwnG
import Derived.Test.YtabhmhojlhagcaaDoorHold
import Derived.Test.YtabhmhojlhagcaaDoorBit64
import Derived.Laws.Shifts
import Derived.Shelf.Abstract
import Derived.Outline
namespace Go.Proofs.YtabhmhojlhagcaaDoor
open Go.RowKit
set_option linter.unusedVariables false
set_option linter.unusedSimpArgs false
/-- one pair, by functions p and q -/
def pairAt (p q : Int → Int → Int) (K X : Nat) (l : List Int) : List Int :=
  if X ||| 2 ^ K = X then l else (l.set X (p (l.getD X 0) (l.getD (X ||| 2 ^ K) 0))).set (X ||| 2 ^ K) (q (l.getD X 0) (l.getD (X ||| 2 ^ K) 0))
def rowTo (p q : Int → Int → Int) (K : Nat) (l : List Int) : Nat → List Int
  | 0 => l
  | X + 1 => pairAt p q K X (rowTo p q K l X)
def flyTo (p q : Int → Int → Int) (N : Nat) (l : List Int) : Nat → List Int
  | 0 => l
  | K + 1 => rowTo p q K (flyTo p q N l K) N
theorem pairAt_len (p q : Int → Int → Int) (K X : Nat) (l : List Int) : (pairAt p q K X l).length = l.length := by
  unfold pairAt; split <;> simp
theorem rowTo_len (p q : Int → Int → Int) (K : Nat) (l : List Int) (X : Nat) : (rowTo p q K l X).length = l.length := by
  induction X with
  | zero => rfl
  | succ X ih => rw [rowTo, pairAt_len, ih]
theorem flyTo_len (p q : Int → Int → Int) (N : Nat) (l : List Int) (K : Nat) : (flyTo p q N l K).length = l.length := by
  induction K with
  | zero => rfl
  | succ K ih => rw [flyTo, rowTo_len, ih]
/-- ints as values -/
def inV (l : List Int) : List Value := l.map (Value.int .i64)
theorem inV_set (l : List Int) (i : Nat) (v : Int) : inV (l.set i v) = (inV l).set i (.int .i64 v) := by simp [inV, List.map_set]
theorem pow2_or (X K : Nat) (hK : K ≤ 5) (hX : X < 64) : bits .or .i64 (X : Int) (wrap64 (2 ^ K)) = ((X ||| 2 ^ K : Nat) : Int) := by
  have e : wrap64 ((2 : Int) ^ K) = ((2 ^ K : Nat) : Int) := by
    have h1 : ((2 : Int) ^ K) = ((2 ^ K : Nat) : Int) := by rw [Int.natCast_pow]; rfl
    have h2 : 2 ^ K ≤ 32 := Nat.pow_le_pow_right (n := 2) (by omega) hK
    rw [h1]
    generalize 2 ^ K = P at h2 ⊢
    unfold wrap64; omega
  have h2 : 2 ^ K ≤ 32 := Nat.pow_le_pow_right (n := 2) (by omega) hK
  rw [e, i64_or_nat X (2 ^ K) (by omega) (by omega)]
set_option maxRecDepth 100000 in
set_option maxHeartbeats 6400000 in
theorem walsh_fly (p q : Int → Int → Int) (f : FuncId) (ef : ∀ args w, (callFunc f args).run Tryd.prog w = .ok (.enter f args) w) (n N g cap base : Nat) (l : List Int) (w : World) (hn : n ≤ 5) (hNe : N = 2 ^ n) (hll : l.length = N)
    (hp : ∀ W (a b : Int), -1073741824 ≤ a → a ≤ 1073741824 → -1073741824 ≤ b → b ≤ 1073741824 → Calls Tryd.prog f #[.int .i64 a, .int .i64 b] W fun e w' => e = .returned (.tuple #[.int .i64 (p a b), .int .i64 (q a b)]) ∧ W = w')
    (hbd : ∀ K X, K < n → X ≤ N → ∀ v ∈ rowTo p q K (flyTo p q N l K) X, -1073741824 ≤ v ∧ v ≤ 1073741824)
    (hr : w.ownsRow base 3 1 (.slice (some ⟨g, 0, none⟩) N cap) N (inV l)) :
    Calls Tryd.prog 10 #[.int .i64 n, .slice (some ⟨g, 0, none⟩) N cap, .func (.func f) #[] #[]] w fun e w' => (∃ v, e = .returned v) ∧ Below base w w' ∧ w.heap.size ≤ w'.heap.size ∧ w'.ownsRow base 3 1 (.slice (some ⟨g, 0, none⟩) N cap) N (inV (flyTo p q N l n)) := by
  have hN : 2 ^ n ≤ 32 := Nat.pow_le_pow_right (n := 2) (by omega) hn
  rw [← hNe] at hN
  have HN := Lib.hid hNe
  have HP := Lib.hid hp
  have HBD := Lib.hid hbd
  have HLL := Lib.hid hll
  have hbg : base ≤ g := by
    obtain ⟨_, h, _⟩ := own_heap hr
    exact h
  clear hNe hp hbd hll
  go_enter Tryd.func10, Tryd.ntmps10
  go_wp2
  go_loopw [10] (fun k wr => ∃ K : Nat, k = .int .i64 K ∧ K ≤ n ∧ Below base w wr ∧ wr.ownsRow base 3 1 (.slice (some ⟨g, 0, none⟩) N cap) N (inV (flyTo p q N l K))) (fun k _ => n - (intOf k).toNat)
  case atStart => exact ⟨0, rfl, by omega, Below.refl _ _, hr⟩
  case round =>
    obtain ⟨K, rfl, hK, hb, hr1⟩ := hrel
    by_cases hlt : K < n
    · clear hr
      have HBK := Lib.hid fun X => HBD.out K X hlt
      have HLK := Lib.hid ((flyTo_len p q N l K).trans HLL.out)
      have HFK := Lib.hid (show flyTo p q N l (K + 1) = rowTo p q K (flyTo p q N l K) N from rfl)
      obtain ⟨m, hm⟩ : ∃ m, flyTo p q N l K = m := ⟨_, rfl⟩
      rw [hm] at HBK HLK hr1 HFK
      clear hm
      have z0 := hb.size
      obtain ⟨wo, hwo⟩ : ∃ wo : World, wo = wr := ⟨_, rfl⟩
      rw [← hwo] at hb hr1 ⊢
      clear hwo
      go_wp2
      go_loopw [15] (fun x w2 => ∃ X : Nat, x = .int .i64 X ∧ X ≤ N ∧ Below base wo w2 ∧ w2.ownsRow base 3 1 (.slice (some ⟨g, 0, none⟩) N cap) N (inV (rowTo p q K m X))) (fun x _ => N - (intOf x).toNat)
      case atStart => exact ⟨0, rfl, by omega, Below.refl _ _, hr1⟩
      case round =>
        obtain ⟨X, rfl, hX, hb2, hr2⟩ := hrel
        by_cases hlx : X < N
        · have HBX := Lib.hid (HBK.out X hX)
          have HLX := Lib.hid ((rowTo_len p q K m X).trans HLK.out)
          have HRX := Lib.hid (show rowTo p q K m (X + 1) = pairAt p q K X (rowTo p q K m X) from rfl)
          obtain ⟨r, hrr⟩ : ∃ r, rowTo p q K m X = r := ⟨_, rfl⟩
          rw [hrr] at HBX HLX hr2 HRX
          clear hrr hr1
          have hY := pow2_or X K (by omega) (by omega)
          have hYlt : X ||| 2 ^ K < N := by
            rw [HN.out]; exact Nat.or_lt_two_pow (by rw [← HN.out]; exact hlx) (Nat.pow_lt_pow_right (by omega) hlt)
          have HPA := Lib.hid (show pairAt p q K X r = if X ||| 2 ^ K = X then r else (r.set X (p (r.getD X 0) (r.getD (X ||| 2 ^ K) 0))).set (X ||| 2 ^ K) (q (r.getD X 0) (r.getD (X ||| 2 ^ K) 0)) from rfl)
          obtain ⟨Y, hYe⟩ : ∃ Y, X ||| 2 ^ K = Y := ⟨_, rfl⟩
          rw [hYe] at hY hYlt HPA
          clear hYe
          by_cases hxy : Y = X
          · have HX2 := Lib.hid (HRX.out.trans (HPA.out.trans (if_pos hxy)))
            have e1 : ((Y : Int) != (X : Int)) = false := by rw [hxy]; simp
            have HXY := Lib.hid hxy
            clear hxy
            go_wp2
            go_round
            case rel => exact ⟨X + 1, by go_num, by omega, hb2, by rw [HX2.out]; exact hr2⟩
            case measure => simp [intOf]; omega
          · have HX2 := Lib.hid (HRX.out.trans (HPA.out.trans (if_neg hxy)))
            have e1 : ((Y : Int) != (X : Int)) = true := by simp; omega
            obtain ⟨a, ha⟩ : ∃ a, r[X]? = some a := ⟨_, List.getElem?_eq_getElem (by rw [HLX.out]; exact hlx)⟩
            obtain ⟨b, hb'⟩ : ∃ b, r[Y]? = some b := ⟨_, List.getElem?_eq_getElem (by rw [HLX.out]; exact hYlt)⟩
            have ba := HBX.out a (List.mem_of_getElem? ha)
            have bb := HBX.out b (List.mem_of_getElem? hb')
            have kx := own_cell hr2 (i := X) (u := .int .i64 a) (by simp [inV, ha])
            have ky := own_cell hr2 (i := Y) (u := .int .i64 b) (by simp [inV, hb'])
            have fx := own_frozen hr2 X
            have fy := own_frozen hr2 Y
            have zg : g < wr.heap.size := by
              obtain ⟨cur, _, h3, _⟩ := own_heap hr2
              exact (Array.getElem?_eq_some_iff.1 h3).1
            have hX3 : rowTo p q K m (X + 1) = (r.set X (p a b)).set Y (q a b) := by
              rw [HX2.out, List.getD_eq_getElem?_getD, List.getD_eq_getElem?_getD, ha, hb']; rfl
            have HX3 := Lib.hid hX3
            have HC := Lib.hid fun W => HP.out W a b ba.1 ba.2 bb.1 bb.2
            have HR2 := Lib.hid hr2
            have hxy2 : ¬ X = Y := fun e => hxy e.symm
            clear HX2 hX3 ha hb' hr2
            go_wp2_with fail
            refine wp_region_D (S := (fun W : World => Below wr.heap.size wr W)) (fun j => j != 18 && j != 20) (by kernel_rfl) (Below.refl _ _).drew (fun hHeld => ?_)
            simp only [List.size_toArray, List.length_cons, List.length_nil, Nat.reduceAdd, Array.replicate_succ, Array.replicate_zero, List.push_toArray, List.append_toArray, List.nil_append, List.cons_append]
            refine WD_free (i := 0) (oi := _) (v := ?_) rfl (by kernel_rfl) (fun _ _ _ h => h) (Or.inl ⟨by rfl, ?_⟩) ?_
            rotate_left
            · (intro W hS; (try dsimp only at hS); clear hS; go_simp; with_reducible rfl)
            try simp only [Act.put, List.getElem_toArray, List.getElem_cons_succ, List.getElem_cons_zero, List.setIfInBounds_toArray, List.set_cons_zero, List.set_cons_succ]
            refine WD_free (i := 1) (oi := _) (v := ?_) rfl (by kernel_rfl) (fun _ _ _ h => h) (Or.inl ⟨by rfl, ?_⟩) ?_
            rotate_left
            · (intro W hS; (try dsimp only at hS); clear hS; go_simp; with_reducible rfl)
            try simp only [Act.put, List.getElem_toArray, List.getElem_cons_succ, List.getElem_cons_zero, List.setIfInBounds_toArray, List.set_cons_zero, List.set_cons_succ]
            refine WD_free (i := 2) (oi := _) (v := ?_) rfl (by kernel_rfl) (fun _ _ _ h => h) (Or.inl ⟨by rfl, ?_⟩) ?_
            rotate_left
            · (intro W hS; (try dsimp only at hS); clear hS; go_simp; with_reducible rfl)
            try simp only [Act.put, List.getElem_toArray, List.getElem_cons_succ, List.getElem_cons_zero, List.setIfInBounds_toArray, List.set_cons_zero, List.set_cons_succ]
            refine WD_free (i := 3) (oi := _) (v := ?_) rfl (by kernel_rfl) (fun _ _ _ h => h) (Or.inl ⟨by rfl, ?_⟩) ?_
            rotate_left
            · (intro W hS; (try dsimp only at hS); clear hS; go_simp; with_reducible rfl)
            try simp only [Act.put, List.getElem_toArray, List.getElem_cons_succ, List.getElem_cons_zero, List.setIfInBounds_toArray, List.set_cons_zero, List.set_cons_succ]
            refine WD_free (i := 4) (oi := _) (v := ?_) rfl (by kernel_rfl) (fun _ _ _ h => h) (Or.inl ⟨by rfl, ?_⟩) ?_
            rotate_left
            · (intro W hS; (try dsimp only at hS); clear hS; go_simp; with_reducible rfl)
            try simp only [Act.put, List.getElem_toArray, List.getElem_cons_succ, List.getElem_cons_zero, List.setIfInBounds_toArray, List.set_cons_zero, List.set_cons_succ]
            refine WD_free (i := 5) (oi := _) (v := ?_) rfl (by kernel_rfl) (fun _ _ _ h => h) (Or.inl ⟨by rfl, ?_⟩) ?_
            rotate_left
            · (intro W hS; (try dsimp only at hS); clear hS; go_simp; with_reducible rfl)
            try simp only [Act.put, List.getElem_toArray, List.getElem_cons_succ, List.getElem_cons_zero, List.setIfInBounds_toArray, List.set_cons_zero, List.set_cons_succ]
            refine WD_free (i := 6) (oi := _) (v := ?_) rfl (by kernel_rfl) (fun _ _ _ h => h) (Or.inl ⟨by rfl, ?_⟩) ?_
            rotate_left
            · (intro W hS; (try dsimp only at hS); clear hS; go_simp; with_reducible rfl)
            try simp only [Act.put, List.getElem_toArray, List.getElem_cons_succ, List.getElem_cons_zero, List.setIfInBounds_toArray, List.set_cons_zero, List.set_cons_succ]
            refine WD_free (i := 7) (oi := _) (v := ?_) rfl (by kernel_rfl) (fun _ _ _ h => h) (Or.inl ⟨by rfl, ?_⟩) ?_
            rotate_left
            · (intro W hS; (try dsimp only at hS); clear hS; go_simp; with_reducible rfl)
            try simp only [Act.put, List.getElem_toArray, List.getElem_cons_succ, List.getElem_cons_zero, List.setIfInBounds_toArray, List.set_cons_zero, List.set_cons_succ]
            refine WD_take (i := 8) (oi := _) (v := ?_) rfl (by kernel_rfl) (fun _ _ _ h => h) (Or.inl ⟨by rfl, ?_⟩) (by assumption) ?_
            rotate_left
            · (intro W hS; (try dsimp only at hS); have kk := (hS.cell (p := ⟨g, X, none⟩) zg).trans kx; clear hS; go_simp; with_reducible rfl)
            try simp only [Act.put, List.getElem_toArray, List.getElem_cons_succ, List.getElem_cons_zero, List.setIfInBounds_toArray, List.set_cons_zero, List.set_cons_succ]
            refine WD_free (i := 9) (oi := _) (v := ?_) rfl (by kernel_rfl) (fun _ _ _ h => h) (Or.inl ⟨by rfl, ?_⟩) ?_
            rotate_left
            · (intro W hS; (try dsimp only at hS); clear hS; go_simp; with_reducible rfl)
            try simp only [Act.put, List.getElem_toArray, List.getElem_cons_succ, List.getElem_cons_zero, List.setIfInBounds_toArray, List.set_cons_zero, List.set_cons_succ]
            refine WD_free (i := 10) (oi := _) (v := ?_) rfl (by kernel_rfl) (fun _ _ _ h => h) (Or.inl ⟨by rfl, ?_⟩) ?_
            rotate_left
            · (intro W hS; (try dsimp only at hS); clear hS; go_simp; with_reducible rfl)
            try simp only [Act.put, List.getElem_toArray, List.getElem_cons_succ, List.getElem_cons_zero, List.setIfInBounds_toArray, List.set_cons_zero, List.set_cons_succ]
            refine WD_free (i := 11) (oi := _) (v := ?_) rfl (by kernel_rfl) (fun _ _ _ h => h) (Or.inl ⟨by rfl, ?_⟩) ?_
            rotate_left
            · (intro W hS; (try dsimp only at hS); clear hS; go_simp; with_reducible rfl)
            try simp only [Act.put, List.getElem_toArray, List.getElem_cons_succ, List.getElem_cons_zero, List.setIfInBounds_toArray, List.set_cons_zero, List.set_cons_succ]
            refine WD_take (i := 12) (oi := _) (v := ?_) rfl (by kernel_rfl) (fun _ _ _ h => h) (Or.inl ⟨by rfl, ?_⟩) (by assumption) ?_
            rotate_left
            · (intro W hS; (try dsimp only at hS); have kk := (hS.cell (p := ⟨g, Y, none⟩) zg).trans ky; clear hS; go_simp; with_reducible rfl)
            try simp only [Act.put, List.getElem_toArray, List.getElem_cons_succ, List.getElem_cons_zero, List.setIfInBounds_toArray, List.set_cons_zero, List.set_cons_succ]
            refine WD_step (i := 13) (o := _) rfl (by kernel_rfl) (fun K hK => ?_)
            go_simp
            refine (HC.out _).mono ?_
            rintro e W1 ⟨rfl, rfl⟩
            go_wp2_with fail
            replace hHeld := hHeld
            refine hK.out _ _ (fun _ _ => hHeld) ?_
            clear hK K
            try simp only [Act.put, List.getElem_toArray, List.getElem_cons_succ, List.getElem_cons_zero, List.setIfInBounds_toArray, List.set_cons_zero, List.set_cons_succ]
            refine WD_free (i := 14) (oi := _) (v := ?_) rfl (by kernel_rfl) (fun _ _ _ h => h) (Or.inl ⟨by rfl, ?_⟩) ?_
            rotate_left
            · (intro W hS; (try dsimp only at hS); clear hS; go_simp; with_reducible rfl)
            try simp only [Act.put, List.getElem_toArray, List.getElem_cons_succ, List.getElem_cons_zero, List.setIfInBounds_toArray, List.set_cons_zero, List.set_cons_succ]
            refine WD_free (i := 15) (oi := _) (v := ?_) rfl (by kernel_rfl) (fun _ _ _ h => h) (Or.inl ⟨by rfl, ?_⟩) ?_
            rotate_left
            · (intro W hS; (try dsimp only at hS); clear hS; go_simp; with_reducible rfl)
            try simp only [Act.put, List.getElem_toArray, List.getElem_cons_succ, List.getElem_cons_zero, List.setIfInBounds_toArray, List.set_cons_zero, List.set_cons_succ]
            refine WD_free (i := 16) (oi := _) (v := ?_) rfl (by kernel_rfl) (fun _ _ _ h => h) (Or.inl ⟨by rfl, ?_⟩) ?_
            rotate_left
            · (intro W hS; (try dsimp only at hS); clear hS; go_simp; with_reducible rfl)
            try simp only [Act.put, List.getElem_toArray, List.getElem_cons_succ, List.getElem_cons_zero, List.setIfInBounds_toArray, List.set_cons_zero, List.set_cons_succ]
            refine WD_free (i := 17) (oi := _) (v := ?_) rfl (by kernel_rfl) (fun _ _ _ h => h) (Or.inl ⟨by rfl, ?_⟩) ?_
            rotate_left
            · (intro W hS; (try dsimp only at hS); clear hS; go_simp; with_reducible rfl)
            try simp only [Act.put, List.getElem_toArray, List.getElem_cons_succ, List.getElem_cons_zero, List.setIfInBounds_toArray, List.set_cons_zero, List.set_cons_succ]
            have hHD := hHeld
            refine WD_step (i := 18) (o := _) rfl (by kernel_rfl) (fun K hK => ?_)
            have kx2 := (hHD.cell (p := ⟨g, X, none⟩) zg).trans kx
            have fx2 := (hHD.frozen (p := ⟨g, X, none⟩) zg).trans fx
            go_simp
            refine hK.out _ _ (fun h => by cases h) ?_
            clear hK K
            try simp only [Act.put, List.getElem_toArray, List.getElem_cons_succ, List.getElem_cons_zero, List.setIfInBounds_toArray, List.set_cons_zero, List.set_cons_succ]
            refine WD_free (i := 19) (oi := _) (v := ?_) rfl (by kernel_rfl) (fun _ _ _ h => h) (Or.inl ⟨by rfl, ?_⟩) ?_
            rotate_left
            · (intro W hS; (try dsimp only at hS); clear hS; go_simp; with_reducible rfl)
            try simp only [Act.put, List.getElem_toArray, List.getElem_cons_succ, List.getElem_cons_zero, List.setIfInBounds_toArray, List.set_cons_zero, List.set_cons_succ]
            refine WD_step (i := 20) (o := _) rfl (by kernel_rfl) (fun K hK => ?_)
            have ky2 := (hHD.cell (p := ⟨g, Y, none⟩) zg).trans ky
            have fy2 := (hHD.frozen (p := ⟨g, Y, none⟩) zg).trans fy
            have ky3 := (World.cell?_setCell_other (wr.drew) ⟨g, X, none⟩ ⟨g, Y, none⟩ (.int .i64 (p a b)) (fun e => hxy2 (by injection e))).trans ky2
            go_simp
            refine hK.out _ _ (fun h => by cases h) ?_
            clear hK K
            try simp only [Act.put, List.getElem_toArray, List.getElem_cons_succ, List.getElem_cons_zero, List.setIfInBounds_toArray, List.set_cons_zero, List.set_cons_succ]
            refine WD_done (by kernel_rfl) ?_ _
            have ho1 : wr.drew.ownsRow base 3 1 (.slice (some ⟨g, 0, none⟩) N cap) N (inV r) := HR2.out.drew
            have ho2 := own_set (own_set ho1 hlx (.int .i64 (p a b))) hYlt (.int .i64 (q a b))
            rw [← inV_set, ← inV_set, ← HX3.out] at ho2
            go_wp2
            go_round
            case rel => exact ⟨X + 1, by go_num, by omega, (hb2.drew.setCell (p := ⟨g, X, none⟩) hbg _).setCell (p := ⟨g, Y, none⟩) hbg _, ho2⟩
            case measure => simp [intOf]; omega
        · obtain rfl : X = N := by omega
          rw [← HFK.out] at hr2
          have hb3 := hb.trans hb2
          go_wp2
          go_round
          case rel => exact ⟨K + 1, by go_num, by omega, hb3, hr2⟩
          case measure => simp [intOf]; omega
    · obtain rfl : K = n := by omega
      go_wp2
      go_end0
      exact ⟨⟨_, rfl⟩, hb, hb.size, hr1⟩
end Go.Proofs.YtabhmhojlhagcaaDoor

/- The contract of cell.Layer. -/
import Derived.Test.YtkodhpjmmiapaaaCell
import Derived.Test.YtkodhpjmmiapaaaOwn
import Derived.Test.YtkodhpjmmiapaaaHeld
namespace Go.Proofs.Ytkodhpjmmiapaaa
open Go.RowKit
set_option linter.unusedVariables false
set_option linter.unusedSimpArgs false
/-- what a layer turns at a place -/
def turnN (k n i : Nat) : Nat := sumN (nameN k n ++ [i, 3]) % 256
/-- a layer -/
def layN (k n : Nat) (xs : List Nat) : List Nat := xs.mapIdx fun i x => x ^^^ turnN k n i
theorem layN_len (k n : Nat) (xs : List Nat) : (layN k n xs).length = xs.length := by simp [layN]
theorem turnN_lt (k n i : Nat) : turnN k n i < 256 := Nat.mod_lt _ (by omega)
theorem layN_lt {k n : Nat} {xs : List Nat} (h : ∀ x ∈ xs, x < 256) : ∀ x ∈ layN k n xs, x < 256 := fun y hy => by
  obtain ⟨i, hi, rfl⟩ := List.mem_mapIdx.1 hy
  exact Nat.xor_lt_two_pow (n := 8) (h _ (List.getElem_mem hi)) (turnN_lt _ _ _)
theorem layN_get (k n : Nat) (xs : List Nat) (i : Nat) : (layN k n xs)[i]? = xs[i]?.map fun x => x ^^^ turnN k n i := by simp [layN]
/-- as far as the loop has come -/
def layTo (k n : Nat) (xs : List Nat) (I : Nat) : List Nat := (layN k n xs).take I ++ xs.drop I
theorem layTo_len (k n : Nat) (xs : List Nat) (I : Nat) (h : I ≤ xs.length) : (layTo k n xs I).length = xs.length := by simp [layTo, layN_len]; omega
theorem layTo_zero (k n : Nat) (xs : List Nat) : layTo k n xs 0 = xs := by simp [layTo]
theorem layTo_all (k n : Nat) (xs : List Nat) : layTo k n xs xs.length = layN k n xs := by
  unfold layTo
  rw [List.drop_length, List.append_nil, List.take_of_length_le (by rw [layN_len]; omega)]
theorem layTo_get (k n : Nat) (xs : List Nat) (I : Nat) (h : I < xs.length) : (layTo k n xs I)[I]? = xs[I]? := by
  unfold layTo
  rw [List.getElem?_append_right (by rw [List.length_take]; omega), List.getElem?_drop]
  congr 1
  have : (List.take I (layN k n xs)).length = I := by rw [List.length_take, layN_len]; omega
  omega
theorem layTo_succ (k n : Nat) (xs : List Nat) (I x : Nat) (h : xs[I]? = some x) : layTo k n xs (I + 1) = (layTo k n xs I).set I (x ^^^ turnN k n I) := by
  have hI : I < xs.length := (List.getElem?_eq_some_iff.1 h).1
  have hl : ((layN k n xs).take I).length = I := by simp [layN_len]; omega
  unfold layTo
  rw [List.set_append_right _ _ (by omega), hl, Nat.sub_self, List.drop_eq_getElem_cons hI, List.set_cons_zero, List.take_add_one, layN_get, h]
  simp
theorem wrap8_mod (n : Nat) : IntKind.u8.wrap (n : Int) = ((n % 256 : Nat) : Int) := by
  simp [IntKind.wrap, IntKind.signed, IntKind.bits]
theorem wrap8 {n : Nat} (h : n < 256) : IntKind.u8.wrap (n : Int) = (n : Int) := by rw [wrap8_mod, Nat.mod_eq_of_lt h]
theorem xor8 (a b : Nat) (h1 : a < 256) (h2 : b < 256) : bits .xor .u8 (a : Int) (b : Int) = ((a ^^^ b : Nat) : Int) := u8_xor_nat a b (by omega) (by omega)
set_option maxRecDepth 100000 in
set_option maxHeartbeats 3200000 in
theorem cell_Layer (k n : Nat) (a : Option Addr) (c : Nat) (xs : List Nat) (w : World) (hk : k < 65536) (hn : n ≤ 2147483648) (h : RowB w a c xs) (hl : xs.length = 17) (hx : ∀ x ∈ xs, x < 256) :
    Calls Try.prog 42 #[.int .i64 k, .int .i64 n, .slice a xs.length c] w fun e w' => ∃ v, e = .returned (.tuple #[v, .int .i64 0]) ∧ Below w.heap.size w w' ∧ w'.ownsRow w.heap.size 5 1 v 17 (byV (layN k n xs)) := by
  have hout : outB k n = false := outB_no.2 ⟨by omega, by omega, by omega, by omega⟩
  have HO := Lib.hid hout
  have HN := Lib.hid fun w => cell_named k n w hk hn
  have HR := Lib.hid h
  have HX := Lib.hid hx
  have HL := Lib.hid hl
  rw [hl]
  clear hout h hx hl
  go_enter Try.func42, Try.ntmps42
  go_wp2_with fail
  refine (cell_out _ _ _).mono ?_
  rintro e w' ⟨rfl, rfl⟩
  rw [HO.out]
  clear HO
  go_wp2_with fail
  refine (HN.out _).mono ?_
  rintro e w1 ⟨v1, rfl, hb1, hr1⟩
  have l1 := nameN_len k n
  obtain ⟨a1, c1, rfl, h1, _⟩ : ∃ a c, v1 = .slice a (nameN k n).length c ∧ RowB w1 a c (nameN k n) ∧ ∀ ad, a = some ad → ∃ g, ad = ⟨g, 0, none⟩ := own_rowB (by rw [l1]; exact hr1)
  rw [l1]
  clear hr1
  go_wp2_with fail
  have HC := slices_Clone a c xs w1 (HR.out.below hb1 (Nat.le_refl _)) (by rw [HL.out]; omega)
  rw [HL.out] at HC
  refine HC.mono ?_
  rintro e w2 ⟨v2, rfl, hb2, hr2⟩
  obtain ⟨g, cap, rfl, hg1, hg2, hg3, hg4⟩ := own_shape hr2 (by omega)
  have hcl := below_two hb1 hb2
  clear HC
  have H1 := Lib.hid h1
  clear h1
  have z1 := hb1.size
  go_wp2
  go_loopw [24] (fun i wr => ∃ I : Nat, i = .int .i64 I ∧ I ≤ 17 ∧ Below w1.heap.size w1 wr ∧ wr.ownsRow w1.heap.size 5 1 (.slice (some ⟨g, 0, none⟩) 17 cap) 17 (byV (layTo k n xs I))) (fun i _ => 17 - (intOf i).toNat)
  case atStart => exact ⟨0, rfl, by omega, hb2, by rw [layTo_zero]; exact hr2⟩
  case round =>
    obtain ⟨I, rfl, hI, hb, hr⟩ := hrel
    by_cases hlt : I < 17
    · obtain ⟨x, hx⟩ : ∃ x, xs[I]? = some x := ⟨_, List.getElem?_eq_getElem (by rw [HL.out]; exact hlt)⟩
      have hx2 : x < 256 := HX.out x (List.mem_of_getElem? hx)
      have HT := Lib.hid (layTo_succ k n xs I x hx)
      have kx := own_cell hr (i := I) (u := .int .u8 (x : Int)) (by simp [byV, layTo_get k n xs I (by rw [HL.out]; exact hlt), hx])
      have fx := own_frozen hr I
      have zg : g < wr.heap.size := by
        obtain ⟨cur, _, h3, _⟩ := own_heap hr
        exact (Array.getElem?_eq_some_iff.1 h3).1
      have HR1 := Lib.hid (H1.out.below hb (Nat.le_refl _))
      have HRO := Lib.hid hr
      have HTN := Lib.hid (show turnN k n I = sumN (nameN k n ++ [I, 3]) % 256 from rfl)
      have hs := sumN_lt (nameN k n ++ [I, 3])
      have fw : IntKind.u8.wrap (I : Int) = (I : Int) := wrap8 (by omega)
      have fw2 : IntKind.u8.wrap ((sumN (nameN k n ++ [I, 3]) : Nat) : Int) = ((turnN k n I : Nat) : Int) := by rw [HTN.out]; exact wrap8_mod _
      have e12 : bits .xor .u8 (x : Int) ((turnN k n I : Nat) : Int) = ((x ^^^ turnN k n I : Nat) : Int) := xor8 x _ hx2 (turnN_lt _ _ _)
      clear hx hr
      go_wp2_with fail
      refine wp_region_T (S := (fun W : World => Below wr.heap.size wr W)) 13 (by kernel_rfl) (Below.refl _ _).drew (fun hHeld => ?_)
      simp only [List.size_toArray, List.length_cons, List.length_nil, Nat.reduceAdd, Array.replicate_succ, Array.replicate_zero, List.push_toArray, List.append_toArray, List.nil_append, List.cons_append]
      refine WT_take (i := 0) (oi := _) (v := ?_) rfl (by kernel_rfl) (fun _ _ _ h => h) (Or.inl ⟨by rfl, ?_⟩) (by assumption) ?_
      rotate_left
      · (intro W hS; (try dsimp only at hS); clear hS; go_simp; with_reducible rfl)
      try simp only [Act.put, List.getElem_toArray, List.getElem_cons_succ, List.getElem_cons_zero, List.setIfInBounds_toArray, List.set_cons_zero, List.set_cons_succ]
      refine WT_take (i := 1) (oi := _) (v := ?_) rfl (by kernel_rfl) (fun _ _ _ h => h) (Or.inl ⟨by rfl, ?_⟩) (by assumption) ?_
      rotate_left
      · (intro W hS; (try dsimp only at hS); clear hS; go_simp; with_reducible rfl)
      try simp only [Act.put, List.getElem_toArray, List.getElem_cons_succ, List.getElem_cons_zero, List.setIfInBounds_toArray, List.set_cons_zero, List.set_cons_succ]
      refine WT_take (i := 2) (oi := _) (v := ?_) rfl (by kernel_rfl) (fun _ _ _ h => h) (Or.inl ⟨by rfl, ?_⟩) (by assumption) ?_
      rotate_left
      · (intro W hS; (try dsimp only at hS); clear hS; go_simp; with_reducible rfl)
      try simp only [Act.put, List.getElem_toArray, List.getElem_cons_succ, List.getElem_cons_zero, List.setIfInBounds_toArray, List.set_cons_zero, List.set_cons_succ]
      refine WT_take (i := 3) (oi := _) (v := ?_) rfl (by kernel_rfl) (fun _ _ _ h => h) (Or.inl ⟨by rfl, ?_⟩) (by assumption) ?_
      rotate_left
      · (intro W hS; (try dsimp only at hS); have kk := (hS.cell (p := ⟨g, I, none⟩) zg).trans kx; clear hS; go_simp; with_reducible rfl)
      try simp only [Act.put, List.getElem_toArray, List.getElem_cons_succ, List.getElem_cons_zero, List.setIfInBounds_toArray, List.set_cons_zero, List.set_cons_succ]
      refine WT_take (i := 4) (oi := _) (v := ?_) rfl (by kernel_rfl) (fun _ _ _ h => h) (Or.inl ⟨by rfl, ?_⟩) (by assumption) ?_
      rotate_left
      · (intro W hS; (try dsimp only at hS); clear hS; go_simp; with_reducible rfl)
      try simp only [Act.put, List.getElem_toArray, List.getElem_cons_succ, List.getElem_cons_zero, List.setIfInBounds_toArray, List.set_cons_zero, List.set_cons_succ]
      refine WT_take (i := 5) (oi := _) (v := ?_) rfl (by kernel_rfl) (fun _ _ _ h => h) (Or.inl ⟨by rfl, ?_⟩) (by assumption) ?_
      rotate_left
      · (intro W hS; (try dsimp only at hS); clear hS; go_simp; with_reducible rfl)
      try simp only [Act.put, List.getElem_toArray, List.getElem_cons_succ, List.getElem_cons_zero, List.setIfInBounds_toArray, List.set_cons_zero, List.set_cons_succ]
      refine WT_take (i := 6) (oi := _) (v := ?_) rfl (by kernel_rfl) (fun _ _ _ h => h) (Or.inl ⟨by rfl, ?_⟩) (by assumption) ?_
      rotate_left
      · (intro W hS; (try dsimp only at hS); clear hS; go_simp; with_reducible rfl)
      try simp only [Act.put, List.getElem_toArray, List.getElem_cons_succ, List.getElem_cons_zero, List.setIfInBounds_toArray, List.set_cons_zero, List.set_cons_succ]
      refine WT_step (i := 7) (o := _) rfl (by kernel_rfl) (fun K hK => ?_)
      obtain ⟨W3, hW3⟩ : ∃ W, W = wr.drew := ⟨_, rfl⟩
      rw [← hW3] at hHeld ⊢
      clear hW3
      go_simp
      refine hK.out _ _ (hHeld.alloc hHeld.size _) (fun hHeld => ?_)
      clear hK K
      try simp only [Act.put, List.getElem_toArray, List.getElem_cons_succ, List.getElem_cons_zero, List.setIfInBounds_toArray, List.set_cons_zero, List.set_cons_succ]
      have hlit0 : RowB (W3.alloc (.cells #[.int .u8 (I : Int), .int .u8 3] 5)) (some ⟨W3.heap.size, 0, none⟩) 2 [I, 3] := by
        refine ⟨fun e => (by cases e), fun ad e j u hu => ?_⟩
        cases e
        rw [add_at]
        rcases j with _ | _ | j
        · simp [byV] at hu; subst hu; simp [go_sem]
        · simp [byV] at hu; subst hu; simp [go_sem]
        · simp [byV] at hu
      obtain ⟨W4, hW4⟩ : ∃ W, W = W3.alloc (.cells #[.int .u8 (I : Int), .int .u8 3] 5) := ⟨_, rfl⟩
      rw [← hW4] at hHeld hlit0 ⊢
      have hS4 := hHeld
      have hlit := hlit0
      clear hW4 hlit0
      refine WT_step (i := 8) (o := _) rfl (by kernel_rfl) (fun K hK => ?_)
      go_simp
      refine hK.out _ _ (hHeld.alloc hHeld.size _) (fun hHeld => ?_)
      clear hK K
      try simp only [Act.put, List.getElem_toArray, List.getElem_cons_succ, List.getElem_cons_zero, List.setIfInBounds_toArray, List.set_cons_zero, List.set_cons_succ]
      refine WT_step (i := 9) (o := _) rfl (by kernel_rfl) (fun K hK => ?_)
      go_simp
      go_at_call 54
      have HC := slices_Concat W4.heap.size a1 (some ⟨W3.heap.size, 0, none⟩) c1 2 (nameN k n) [I, 3] (W4.alloc (.cells #[.slice a1 6 c1, .slice (some ⟨W3.heap.size, 0, none⟩) 2 2] 31)) (by simp) (by rw [l1]; simp) (by simp) ((HR1.out.below hS4 (Nat.le_refl _)).below ((Below.refl _ _).alloc (Nat.le_refl _) _) (Nat.le_refl _)) (hlit.below ((Below.refl _ _).alloc (Nat.le_refl _) _) (Nat.le_refl _)) (by simp) (by rw [l1]; simp)
      rw [l1] at HC
      refine HC.mono ?_
      rintro e W5 ⟨v5, rfl, hb5, hr5⟩
      have l5 : (nameN k n ++ [I, 3]).length = 8 := by rw [List.length_append, l1]; rfl
      obtain ⟨a5, c5, rfl, h5, _⟩ : ∃ a c, v5 = .slice a (nameN k n ++ [I, 3]).length c ∧ RowB W5 a c (nameN k n ++ [I, 3]) ∧ ∀ ad, a = some ad → ∃ g, ad = ⟨g, 0, none⟩ := own_rowB (by rw [l5]; exact hr5)
      rw [l5]
      clear hr5 HC
      go_wp2_with fail
      refine hK.out _ _ (below_two hHeld hb5) (fun hHeld => ?_)
      clear hK K
      try simp only [Act.put, List.getElem_toArray, List.getElem_cons_succ, List.getElem_cons_zero, List.setIfInBounds_toArray, List.set_cons_zero, List.set_cons_succ]
      refine WT_step (i := 10) (o := _) rfl (by kernel_rfl) (fun K hK => ?_)
      go_simp
      go_at_call 51
      have HC := hash_Of a5 c5 (nameN k n ++ [I, 3]) W5 h5 (by rw [l5]; omega) (fun x hx => by
        rcases List.mem_append.1 hx with h | h
        · exact nameN_lt k n x h
        · simp at h; omega)
      rw [l5] at HC
      refine HC.mono ?_
      rintro e W6 ⟨rfl, hb6⟩
      go_wp2_with fail
      refine hK.out _ _ (below_two hHeld hb6) (fun hHeld => ?_)
      clear hK K
      try simp only [Act.put, List.getElem_toArray, List.getElem_cons_succ, List.getElem_cons_zero, List.setIfInBounds_toArray, List.set_cons_zero, List.set_cons_succ]
      refine WT_take (i := 11) (oi := _) (v := ?_) rfl (by kernel_rfl) (fun _ _ _ h => h) (Or.inl ⟨by rfl, ?_⟩) (by assumption) ?_
      rotate_left
      · (intro W hS; (try dsimp only at hS); clear hS; go_simp; with_reducible rfl)
      try simp only [Act.put, List.getElem_toArray, List.getElem_cons_succ, List.getElem_cons_zero, List.setIfInBounds_toArray, List.set_cons_zero, List.set_cons_succ]
      refine WT_take (i := 12) (oi := _) (v := ?_) rfl (by kernel_rfl) (fun _ _ _ h => h) (Or.inl ⟨by rfl, ?_⟩) (by assumption) ?_
      rotate_left
      · (intro W hS; (try dsimp only at hS); clear hS; go_simp; with_reducible rfl)
      try simp only [Act.put, List.getElem_toArray, List.getElem_cons_succ, List.getElem_cons_zero, List.setIfInBounds_toArray, List.set_cons_zero, List.set_cons_succ]
      refine WT_tail (by kernel_rfl) ?_
      simp only [List.drop_succ_cons, List.drop_zero]
      have hfx : W6.frozen? ⟨g, I, none⟩ = false := (hHeld.frozen (p := ⟨g, I, none⟩) zg).trans fx
      have kx6 := (hHeld.cell (p := ⟨g, I, none⟩) zg).trans kx
      have hown6 : W6.ownsRow w1.heap.size 5 1 (.slice (some ⟨g, 0, none⟩) 17 cap) 17 (byV (layTo k n xs I)) := own_keep HRO.out hHeld
      have hown7 := own_set hown6 hlt (.int .u8 ((x ^^^ turnN k n I : Nat) : Int))
      have hb7 : Below w1.heap.size w1 (W6.setCell ⟨g, I, none⟩ (.int .u8 ((x ^^^ turnN k n I : Nat) : Int))) := (hb.trans (hHeld.mono hb.size)).setCell (p := ⟨g, I, none⟩) hg1 _
      go_wp2
      go_round
      case rel =>
        refine ⟨I + 1, by go_num, by omega, hb7, ?_⟩
        rw [HT.out]
        simpa [byV, List.map_set] using hown7
      case measure => simp [intOf]; omega
    · obtain rfl : I = 17 := by omega
      go_wp2
      go_ret2
      refine ⟨_, rfl, hb1.trans (hb.mono hb1.size), ?_⟩
      refine own_lower ?_ z1
      have e := layTo_all k n xs
      rw [HL.out] at e
      rw [← e]
      exact hr
end Go.Proofs.Ytkodhpjmmiapaaa

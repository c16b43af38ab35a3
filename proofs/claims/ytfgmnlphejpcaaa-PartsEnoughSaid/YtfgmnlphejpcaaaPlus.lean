/- The contracts of poly.trim and poly.Plus. -/
import Derived.Test.YtfgmnlphejpcaaaRowL
import Derived.Test.YtfgmnlphejpcaaaEu
import Derived.Laws.CopyOwn
import Derived.Outline
namespace Go.Proofs.Ytfgmnlphejpcaaa
open Go.RowKit
set_option linter.unusedVariables false
set_option linter.unusedSimpArgs false
theorem long_info : (Try.prog.info? 2).map (fun i => (i.zero, i.size, i.bytes)) = some (some (.int .i64 0), 1, 8) := by kernel_rfl
/-- without zeros at its end -/
def trimL : List Int → List Int
  | [] => []
  | x :: t => if trimL t = [] ∧ x = 0 then [] else x :: trimL t
theorem trimL_get (xs : List Int) : ∀ i, (trimL xs).getD i 0 = xs.getD i 0 := by
  induction xs with
  | nil => intro i; rfl
  | cons x t ih =>
    intro i
    unfold trimL
    split
    · rename_i h
      have h2 := fun j => ih j
      rw [h.1] at h2
      cases i with
      | zero => simp [h.2]
      | succ i => have := h2 i; simpa using this
    · cases i with
      | zero => rfl
      | succ i => simpa using ih i
theorem trimL_last (xs : List Int) : (trimL xs).getLastD 1 ≠ 0 := by
  induction xs with
  | nil => simp [trimL]
  | cons x t ih =>
    unfold trimL
    split
    · simp
    · rename_i h
      cases ht : trimL t with
      | nil =>
        rw [ht] at h
        simp only [true_and] at h
        simpa using h
      | cons y s =>
        rw [ht] at ih
        simpa using ih
theorem trimL_len (xs : List Int) : (trimL xs).length ≤ xs.length := by
  induction xs with
  | nil => simp [trimL]
  | cons x t ih => unfold trimL; split <;> simp <;> omega
theorem trimL_mem (xs : List Int) : ∀ v ∈ trimL xs, v ∈ xs := by
  induction xs with
  | nil => intro v h; simp [trimL] at h
  | cons x t ih =>
    intro v h
    unfold trimL at h
    split at h
    · simp at h
    · rcases List.mem_cons.1 h with rfl | h
      · simp
      · exact List.mem_cons_of_mem _ (ih v h)
theorem trimL_zero {xs : List Int} (h : ∀ j, xs.getD j 0 = 0) : trimL xs = [] := by
  induction xs with
  | nil => rfl
  | cons x t ih =>
    unfold trimL
    rw [if_pos ⟨ih fun j => by simpa using h (j + 1), by simpa using h 0⟩]
theorem trimL_take (xs : List Int) : ∀ K, K ≤ xs.length → (∀ j, K ≤ j → xs.getD j 0 = 0) → (0 < K → xs.getD (K - 1) 0 ≠ 0) → xs.take K = trimL xs := by
  induction xs with
  | nil => intro K _ _ _; simp [trimL]
  | cons x t ih =>
    intro K hK hz hl
    cases K with
    | zero => rw [List.take_zero]; exact (trimL_zero fun j => hz j (Nat.zero_le _)).symm
    | succ K =>
      rw [List.take_succ_cons]
      unfold trimL
      have h1 := ih K (by simpa using hK) (fun j hj => by simpa using hz (j + 1) (by omega)) (fun h0 => by
        obtain ⟨k, rfl⟩ : ∃ k, K = k + 1 := ⟨K - 1, by omega⟩
        simpa using hl (by omega))
      rw [if_neg, h1]
      rintro ⟨h2, h3⟩
      rw [← h1] at h2
      have : K = 0 := by
        have := congrArg List.length h2
        rw [List.length_take, Nat.min_eq_left (by simpa using hK)] at this
        simpa using this
      subst this
      exact hl (Nat.succ_pos 0) (by simpa using h3)
theorem trimL_eq (xs : List Int) : trimL xs = xs.take (trimL xs).length := by
  induction xs with
  | nil => rfl
  | cons x t ih =>
    unfold trimL
    split
    · rfl
    · rw [List.length_cons, List.take_succ_cons, ← ih]
theorem RowL.trim {W : World} {a : Option Addr} {c : Nat} {xs : List Int} (h : RowL W a c xs) : RowL W a c (trimL xs) := by
  have := h.take (trimL xs).length
  rw [← trimL_eq] at this
  exact this
theorem mul_bd {k x : Int} (h1 : -1000 ≤ k) (h2 : k ≤ 1000) (h3 : 0 ≤ x) (h4 : x ≤ 1000) : -1000000 ≤ k * x ∧ k * x ≤ 1000000 := by
  have a1 := Int.mul_le_mul_of_nonneg_right h2 h3
  have a2 := Int.mul_le_mul_of_nonneg_right h1 h3
  omega
set_option maxRecDepth 20000 in
set_option maxHeartbeats 1600000 in
theorem poly_trim (a : Option Addr) (c : Nat) (xs : List Int) (w : World) (h : RowL w a c xs) (hl : xs.length ≤ 1048576) (hc : c ≤ maxLen) :
    Calls Try.prog 69 #[.slice a xs.length c] w fun e w' => e = .returned (.slice a (trimL xs).length c) ∧ w = w' := by
  unfold maxLen at hc
  have hcl := h.2.2
  have HT := Lib.hid (trimL_take xs)
  have HR := Lib.hid h
  obtain ⟨L, hL⟩ : ∃ L, L = xs.length := ⟨_, rfl⟩
  have HL := Lib.hid hL
  rw [← hL] at hl hcl ⊢
  obtain ⟨T, hTe⟩ : ∃ T, trimL xs = T := ⟨_, rfl⟩
  rw [hTe] at HT ⊢
  clear h hL hTe
  go_enter Try.func69, Try.ntmps69
  go_wp2
  go_loop [0] (fun s => ∃ K : Nat, s = .slice a K c ∧ K ≤ L ∧ Hid (∀ j, K ≤ j → xs.getD j 0 = 0)) (fun s => match s with | .slice _ k _ => k | _ => 0)
  case atStart => exact ⟨L, rfl, Nat.le_refl _, Lib.hid fun j hj => by rw [List.getD_eq_getElem?_getD, List.getElem?_eq_none (by rw [← HL.out]; exact hj)]; rfl⟩
  case round =>
    obtain ⟨K, rfl, hK, HZ⟩ := hrel
    by_cases h0 : K = 0
    · subst h0
      have HF := Lib.hid (HT.out 0 (Nat.zero_le _) HZ.out (fun h => absurd h (Nat.lt_irrefl 0)))
      go_wp2
      go_ret
      refine ⟨?_, rfl⟩
      rw [← HF.out]; rfl
    · obtain ⟨k, rfl⟩ : ∃ k, K = k + 1 := ⟨K - 1, by omega⟩
      clear h0
      obtain ⟨x, hx⟩ : ∃ x, xs[k]? = some x := ⟨_, List.getElem?_eq_getElem (by rw [← HL.out]; omega)⟩
      obtain ⟨b, o, rfl, hcell⟩ := HR.out.shape (by rw [← HL.out]; omega)
      have kx := hcell k x hx
      have HX := Lib.hid hx
      clear hcell hx
      by_cases hx0 : x = 0
      · subst hx0
        go_wp2
        go_round
        case rel =>
          refine ⟨k, rfl, by omega, Lib.hid fun j hj => ?_⟩
          by_cases e : j = k
          · subst e; rw [List.getD_eq_getElem?_getD, HX.out]; rfl
          · exact HZ.out j (by omega)
        case measure => simp
      · have e1 : (x == 0) = false := by simpa using hx0
        have HF := Lib.hid (HT.out (k + 1) (by rw [← HL.out]; omega) HZ.out (fun _ => by
          rw [Nat.add_sub_cancel, List.getD_eq_getElem?_getD, HX.out]; exact hx0))
        go_wp2
        go_ret
        refine ⟨?_, rfl⟩
        rw [← HF.out, List.length_take, Nat.min_eq_left (by rw [← HL.out]; omega)]
        rfl
/-- as far as the loop of Plus has come -/
def plusTo (p : Int) (a b : List Int) (k : Int) (up N I : Nat) : List Int := (List.range N).map fun i => if up ≤ i ∧ i < up + I then (a.getD i 0 + k * b.getD (i - up) 0) % p else a.getD i 0
/-- a and k times b, moved up by so many places -/
def plusL (p : Int) (a b : List Int) (k : Int) (up : Nat) : List Int := trimL (plusTo p a b k up (max a.length (b.length + up)) b.length)
theorem plusTo_len (p : Int) (a b : List Int) (k : Int) (up N I : Nat) : (plusTo p a b k up N I).length = N := by simp [plusTo]
theorem plusTo_get (p : Int) (a b : List Int) (k : Int) (up N I i : Nat) (h : i < N) : (plusTo p a b k up N I)[i]? = some (if up ≤ i ∧ i < up + I then (a.getD i 0 + k * b.getD (i - up) 0) % p else a.getD i 0) := by
  unfold plusTo; rw [List.getElem?_map, List.getElem?_range h]; rfl
theorem plusTo_set (p : Int) (a b : List Int) (k : Int) (up N I : Nat) (h : I + up < N) : (plusTo p a b k up N I).set (I + up) ((a.getD (I + up) 0 + k * b.getD I 0) % p) = plusTo p a b k up N (I + 1) := by
  apply List.ext_getElem?
  intro i
  by_cases e : I + up = i
  · subst e
    rw [List.getElem?_set_self (by rw [plusTo_len]; exact h), plusTo_get _ _ _ _ _ _ _ _ h, if_pos (by omega), Nat.add_sub_cancel]
  · rw [List.getElem?_set_ne e]
    by_cases hi : i < N
    · rw [plusTo_get _ _ _ _ _ _ _ _ hi, plusTo_get _ _ _ _ _ _ _ _ hi]
      by_cases h1 : up ≤ i ∧ i < up + I
      · rw [if_pos h1, if_pos (by omega)]
      · rw [if_neg h1, if_neg (by omega)]
    · rw [List.getElem?_eq_none (by rw [plusTo_len]; omega), List.getElem?_eq_none (by rw [plusTo_len]; omega)]
theorem plusTo_zero (p : Int) (a b : List Int) (k : Int) (up N : Nat) (h : a.length ≤ N) : splice (List.replicate N (Value.int .i64 0)) 0 (inV a) = inV (plusTo p a b k up N 0) := by
  unfold splice inV
  apply List.ext_getElem?
  intro i
  simp only [List.take_zero, List.nil_append, List.length_map, Nat.zero_add, List.drop_replicate]
  by_cases hi : i < a.length
  · rw [List.getElem?_append_left (by simpa using hi), List.getElem?_map, List.getElem?_map, plusTo_get _ _ _ _ _ _ _ _ (by omega), if_neg (by omega), List.getD_eq_getElem?_getD, List.getElem?_eq_getElem hi]
    rfl
  · rw [List.getElem?_append_right (by simpa using hi), List.getElem?_map]
    by_cases h2 : i < N
    · rw [List.getElem?_replicate, if_pos (by rw [List.length_map]; omega), plusTo_get _ _ _ _ _ _ _ _ h2, if_neg (by omega), List.getD_eq_getElem?_getD, List.getElem?_eq_none (by omega)]
      rfl
    · rw [List.getElem?_eq_none (by simp; omega), List.getElem?_eq_none (by rw [plusTo_len]; omega)]
      rfl
set_option maxRecDepth 100000 in
set_option maxHeartbeats 6400000 in
theorem poly_Plus (p k : Int) (up : Nat) (a b : Option Addr) (c d : Nat) (xs ys : List Int) (w : World) (hp : 1 ≤ p) (hp2 : p ≤ 251) (hk : -1000 ≤ k) (hk2 : k ≤ 1000) (hup : up ≤ 1000) (h1 : RowL w a c xs) (h2 : RowL w b d ys) (l1 : xs.length ≤ 1000) (l2 : ys.length ≤ 1000)
    (x1 : ∀ x ∈ xs, 0 ≤ x ∧ x < p) (x2 : ∀ x ∈ ys, 0 ≤ x ∧ x < p) :
    Calls Try.prog 44 #[.int .i64 p, .slice a xs.length c, .slice b ys.length d, .int .i64 k, .int .i64 up] w fun e w' => (∃ a' c', e = .returned (.slice a' (plusL p xs ys k up).length c') ∧ RowL w' a' c' (plusL p xs ys k up)) ∧ Below w.heap.size w w' := by
  obtain ⟨N, hN⟩ : ∃ N, N = max xs.length (ys.length + up) := ⟨_, rfl⟩
  have HPL := Lib.hid (show plusL p xs ys k up = trimL (plusTo p xs ys k up N ys.length) by rw [hN]; rfl)
  have HP0 := Lib.hid (plusTo_zero p xs ys k up N (by omega))
  have HST := Lib.hid fun I (h : I + up < N) => plusTo_set p xs ys k up N I h
  have HGT := Lib.hid fun I i (h : i < N) => plusTo_get p xs ys k up N I i h
  have HR1 := Lib.hid h1
  have HR2 := Lib.hid h2
  have HX1 := Lib.hid x1
  have HX2 := Lib.hid x2
  obtain ⟨La, hLa⟩ : ∃ L, L = xs.length := ⟨_, rfl⟩
  obtain ⟨Lb, hLb⟩ : ∃ L, L = ys.length := ⟨_, rfl⟩
  have HLa := Lib.hid hLa
  have HLb := Lib.hid hLb
  rw [← hLa, ← hLb] at hN
  rw [← hLa] at l1 ⊢
  rw [← hLb] at l2 HPL ⊢
  obtain ⟨i0, hi, hz0, hz1, hz2⟩ := info_parts long_info
  have hu : Try.prog.underlying 22 = some (.slice 2) := by kernel_rfl
  clear hLa hLb h1 h2 x1 x2
  have hNle : N ≤ 2000 := by omega
  have HNN := Lib.hid hN
  by_cases hlt : La < Lb + up
  all_goals
    have hNe : ((if La < Lb + up then ((Lb : Int) + up) else (La : Int)) : Int) = (N : Int) := by
      first | (rw [if_pos hlt]; have := HNN.out; omega) | (rw [if_neg hlt]; have := HNN.out; omega)
    first
      | (have hw : (Lb : Int) + (up : Int) = (N : Int) := by rw [if_pos hlt] at hNe; exact hNe
         have HNe := Lib.hid hw; clear hw)
      | (have hw : (La : Int) = (N : Int) := by rw [if_neg hlt] at hNe; exact hNe
         have HNe := Lib.hid hw; clear hw)
    clear hN hNe
    have hLaN : La ≤ N := by have := HNN.out; omega
    have hLbN : Lb + up ≤ N := by have := HNN.out; omega
    go_enter Try.func44, Try.ntmps44
    go_wp2_with (first
      | (at_make; refine wpList_make_full _ rfl _ _ 22 rfl w.heap.size 2 i0 (.int .i64 0) 1 hu hi hz0 hz1 .i64 .i64 _ _ N rfl rfl HNe.out HNe.out (by rw [hz2]; omega) (by unfold maxLen; omega) (Nat.le_refl _) ?_
         intro w1 hown1 hg1
         rw [Nat.mul_one, show (Value.int IntKind.i64 0).cells = #[Value.int .i64 0] from rfl, made_one] at hown1
         have HG := Lib.hid (own_full hown1)
         have HB0 := Lib.hid ((Below.refl w.heap.size w).grown hg1 (Nat.le_refl _) (fun j hj => by cases hj))
         have HRB := Lib.hid (HR1.out.below HB0.out (Nat.le_refl _)))
      | (with_reducible refine wpList_copy_splice (o := ⟨some 24, _, _, _, _, _⟩) rfl _ _ 22 22 rfl 2 hu (by rw [hi]; simp [hz1]) (some ⟨w.heap.size, 0, none⟩) a N N La c rfl rfl w.heap.size 0 (List.replicate N (.int .i64 0)) 2 HG.out (inV xs) ?cn ?cp ?cf (inV_one xs) w.heap.size w HB0.out (Nat.le_refl _) ?_))
    case cn => rw [inV_len, ← HLa.out]; exact (Nat.min_eq_left hLaN).symm
    case cf => rw [inV_len, ← HLa.out, List.length_replicate]; omega
    case cp =>
      intro h0
      rcases a with _ | ad
      · have := (HRB.out.1 rfl).1; rw [this] at h0; simp [inV] at h0
      · exact ⟨ad, rfl, fun j u hu => HRB.out.2.1 ad rfl j u hu⟩
    intro w2 hcg hb2
    have hcg2 := hcg.out
    rw [HP0.out] at hcg2
    have hown2 : w2.ownsRow w.heap.size 2 1 (.slice (some ⟨w.heap.size, 0, none⟩) N N) N (inV (plusTo p xs ys k up N 0)) := own_of (Nat.le_refl _) (by rw [inV_len, plusTo_len]) hcg2
    clear hcg hcg2 hown1 hg1 HG HB0 HRB HP0 hlt
    go_wp2
    go_loopw [27] (fun x wr => ∃ I : Nat, x = .int .i64 I ∧ I ≤ Lb ∧ Below w.heap.size w wr ∧ wr.ownsRow w.heap.size 2 1 (.slice (some ⟨w.heap.size, 0, none⟩) N N) N (inV (plusTo p xs ys k up N I))) (fun x _ => Lb - (intOf x).toNat)
    case atStart => exact ⟨0, rfl, by omega, hb2, hown2⟩
    case round =>
      obtain ⟨I, rfl, hI, hb, hr⟩ := hrel
      by_cases hlt2 : I < Lb
      · obtain ⟨x, hx⟩ : ∃ x, ys[I]? = some x := ⟨_, List.getElem?_eq_getElem (by rw [← HLb.out]; exact hlt2)⟩
        obtain ⟨bb, o, rfl, hcell⟩ := (HR2.out.below hb (Nat.le_refl _)).shape (by rw [← HLb.out]; omega)
        have kx := hcell I x hx
        obtain ⟨x3, x4⟩ := HX2.out x (List.mem_of_getElem? hx)
        have ky := own_cell hr (i := I + up) (u := .int .i64 (xs.getD (I + up) 0)) (by rw [inV, List.getElem?_map, HGT.out _ _ (by omega), if_neg (by omega)]; rfl)
        have fy := own_frozen hr (I + up)
        have hr2 := own_set hr (show I + up < N by omega) (.int .i64 ((xs.getD (I + up) 0 + k * x) % p))
        have e := HST.out I (by omega)
        rw [show ys.getD I 0 = x by rw [List.getD_eq_getElem?_getD, hx]; rfl] at e
        rw [← inV_set, e] at hr2
        have hym : 0 ≤ xs.getD (I + up) 0 ∧ xs.getD (I + up) 0 < p := by
          rw [List.getD_eq_getElem?_getD]
          by_cases hq : I + up < xs.length
          · rw [List.getElem?_eq_getElem hq]; exact HX1.out _ (List.getElem_mem _)
          · rw [List.getElem?_eq_none (by omega)]; exact ⟨Int.le_refl _, by simp; omega⟩
        obtain ⟨y, hy⟩ : ∃ y, xs.getD (I + up) 0 = y := ⟨_, rfl⟩
        rw [hy] at ky hr2 hym
        obtain ⟨y1, y2⟩ := hym
        obtain ⟨m1, m2⟩ := mul_bd hk hk2 x3 (by omega)
        clear hcell hx e hy hr hown2 hb2
        go_wp2_with (first | (go_at_call 41; refine (euclid_Mod _ _ _ hp (by omega)).mono ?_; rintro e w' ⟨rfl, rfl⟩))
        go_round
        case rel => exact ⟨I + 1, by go_num, by omega, hb.setCell (p := ⟨w.heap.size, I + up, none⟩) (Nat.le_refl _) _, hr2⟩
        case measure => simp [intOf]; omega
      · obtain rfl : I = Lb := by omega
        have HT := Lib.hid (poly_trim (some ⟨w.heap.size, 0, none⟩) N (plusTo p xs ys k up N I) wr (row_ownL hr) (by rw [plusTo_len]; omega) (by unfold maxLen; omega))
        rw [plusTo_len, ← HPL.out] at HT
        go_wp2_with fail
        refine (HT.out).mono ?_
        rintro e w3 ⟨rfl, rfl⟩
        go_wp2
        go_ret
        refine ⟨⟨_, _, rfl, ?_⟩, hb⟩
        rw [HPL.out]
        exact (row_ownL hr).trim
end Go.Proofs.Ytfgmnlphejpcaaa

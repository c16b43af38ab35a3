/- The reference's sum of a text: Padded, Sum. -/
import Derived.Test.YtgmkmlfppblpfaaRSum
import Derived.ArgAppend
namespace Go.Proofs.Ytgmkmlfppblpfaa
open Go.RowKit
set_option linter.unusedVariables false
set_option linter.unusedSimpArgs false
theorem own_belowB {W W' : World} {base : Nat} {e : TypeId} {size : Nat} {v : Value} {k : Nat} {xs : List Value} (h : W.ownsRow base e size v k xs) (hb : Below W.heap.size W W') : W'.ownsRow base e size v k xs := by
  rcases h with ⟨h0, h | ⟨g, cap, cur, h1, h2, h3, h4⟩⟩
  · exact ⟨h0, .inl h⟩
  · exact ⟨h0, .inr ⟨g, cap, cur, h1, h2, (hb.block g (Array.getElem?_eq_some_iff.1 h3).1).trans h3, h4⟩⟩
set_option maxRecDepth 20000 in
set_option maxHeartbeats 3200000 in
theorem ref_Padded (ad : Addr) (c : Nat) (xs : List Nat) (w : World) (h : RowB w (some ad) c xs) (h0 : 1 ≤ xs.length) (hl : xs.length ≤ 1048000) :
    Calls Try.prog 60 #[.slice (some ad) xs.length c] w fun e w' => ∃ v, e = .returned v ∧ Below w.heap.size w w' ∧ w'.ownsRow w.heap.size 5 1 v (xs.length + 4) (byV (padN xs)) := by
  have HLi := Lib.hid fun w => ref_little xs.length 4 w (by omega) (by omega)
  have HPd : Hid (padN xs = xs ++ litN xs.length 4) := Lib.hid rfl
  obtain ⟨L, hL⟩ : ∃ L, L = xs.length := ⟨_, rfl⟩
  have HL := Lib.hid hL
  rw [← hL] at HLi hl h0 HPd ⊢
  have HR := Lib.hid h
  obtain ⟨i0, hi, hz0, hz1, hz2⟩ := info_parts byte_info
  have hu : Try.prog.underlying 51 = some (.slice 5) := by kernel_rfl
  clear hL h
  have hB0 : Below w.heap.size w (w.alloc (.cells #[] 5)) := (Below.refl _ _).alloc (Nat.le_refl _) _
  go_enter Try.func60, Try.ntmps60
  go_wp2_with (first
    | (at_builtin; refine wpList_append_grows _ rfl _ _ 51 rfl 5 i0 (.int .u8 0) 1 1 hu hi hz0 hz1 hz2 rfl (by decide) (some ⟨w.heap.size, 0, none⟩) 0 0 [] rfl (fun e => by cases e) rfl (fun b e j u hj => by simp at hj) ad L c (byV xs) rfl (by rw [byV_len, Nat.mul_one]; exact HL.out.symm) ((HR.out.below hB0 (Nat.le_refl _)).2 ad rfl) (byV_one xs) (by omega) (by unfold maxLen; omega) (by omega) ?_; intro v1 w1 hown1 hg1)
    | fail)
  have hb1 : Below w.heap.size w w1 := hB0.grown hg1 (by simp) (fun j hj => by cases hj)
  have hown2 : w1.ownsRow w.heap.size 5 1 v1 L (byV xs) := own_lower (by simpa using hown1) (by simp)
  clear hown1 hg1
  refine (HLi.out _).mono ?_
  rintro e w2 ⟨v, rfl, hb2, hr⟩
  have hlen := litN_len 4 L
  obtain ⟨a2, c2, rfl, h2, _⟩ : ∃ a c, v = .slice a (litN L 4).length c ∧ RowB w2 a c (litN L 4) ∧ ∀ ad, a = some ad → ∃ g, ad = ⟨g, 0, none⟩ := own_rowB (by rw [hlen]; exact hr)
  rw [hlen]
  rcases a2 with _ | a2
  · have := (h2.1 rfl).1
    rw [this] at hlen
    cases hlen
  · have hown3 := own_belowB hown2 hb2
    have hcell := h2.2 a2 rfl
    have hb12 := below_two hb1 hb2
    clear hown2 hr h2
    go_wp2_with (first
      | (at_builtin; refine wpList_append_own _ rfl _ _ 51 rfl w.heap.size 5 i0 (.int .u8 0) 1 1 hu hi hz0 hz1 hz2 rfl (by decide) _ _ _ rfl hown3 a2 4 c2 (byV (litN L 4)) rfl (by rw [byV_len, hlen]) hcell (byV_one _) (by unfold maxLen; omega) (by omega) (by have := hb12.size; omega) ?_; intro v' w3 hown' hg3 hnil3))
    have hb13 : Below w.heap.size w w3 := hb12.grown hg3 hb12.size (fun j hj => (hown3.lt j hj).1)
    go_ret
    refine ⟨_, rfl, hb13, ?_⟩
    rw [HPd.out, byV_append]
    exact hown'
set_option maxRecDepth 20000 in
set_option maxHeartbeats 3200000 in
theorem ref_Sum (ad : Addr) (c : Nat) (xs : List Nat) (w : World) (h : RowB w (some ad) c xs) (h0 : 1 ≤ xs.length) (hl : xs.length ≤ 1048000) (hx : ∀ x ∈ xs, x < 256) :
    Calls Try.prog 50 #[.slice (some ad) xs.length c] w fun e w' => e = .returned (.int .i64 (sumN xs)) ∧ Below w.heap.size w w' := by
  have HP := Lib.hid (ref_Padded ad c xs w h h0 hl)
  have hps : ∀ x ∈ padN xs, x < 256 := fun x hm => by
    rcases List.mem_append.1 hm with h | h
    · exact hx x h
    · exact litN_lt _ _ x h
  have HS := Lib.hid (show sumN xs = (padN xs).foldl M.stepN 0 from rfl)
  have HPL := Lib.hid (padN_len xs)
  obtain ⟨S, hS⟩ : ∃ S, sumN xs = S := ⟨_, rfl⟩
  rw [hS] at HS ⊢
  obtain ⟨L, hL⟩ : ∃ L, L = xs.length := ⟨_, rfl⟩
  rw [← hL] at HP hl HPL ⊢
  have hlen := HPL.out
  obtain ⟨ps, hps'⟩ : ∃ ps, padN xs = ps := ⟨_, rfl⟩
  rw [hps'] at HP hps HS HPL hlen
  clear hL hps' hS h hx
  have HX := Lib.hid hps
  clear hps
  go_enter Try.func50, Try.ntmps50
  go_wp2_with fail
  refine HP.out.mono ?_
  rintro e w1 ⟨v, rfl, hb1, hr⟩
  obtain ⟨a2, c2, rfl, h2, ha⟩ : ∃ a c, v = .slice a ps.length c ∧ RowB w1 a c ps ∧ ∀ ad, a = some ad → ∃ g, ad = ⟨g, 0, none⟩ := own_rowB (by rw [HPL.out]; exact hr)
  rw [HPL.out]
  clear hr
  go_wp2
  go_loopw [3, 9] (fun h i wr => ∃ I : Nat, i = .int .i64 I ∧ I ≤ L + 4 ∧ h = .int .i64 (((ps.take I).foldl M.stepN 0 : Nat) : Int) ∧ w1 = wr) (fun _ i _ => L + 4 - (intOf i).toNat)
  case atStart => exact ⟨0, rfl, by omega, by simp, rfl⟩
  case round =>
    obtain ⟨I, rfl, hI, rfl, rfl⟩ := hrel
    obtain ⟨T, hT⟩ : ∃ T, (ps.take I).foldl M.stepN 0 = T := ⟨_, rfl⟩
    have hT1 : T < 65536 := by rw [← hT]; exact fold_lt _ _ (by omega)
    rw [hT]
    have HT := Lib.hid hT
    clear hT
    by_cases hlt : I < L + 4
    · obtain ⟨x, hx⟩ : ∃ x, ps[I]? = some x := ⟨_, List.getElem?_eq_getElem (by rw [hlen]; exact hlt)⟩
      have hx2 : x < 256 := HX.out x (List.mem_of_getElem? hx)
      have hnext : (ps.take (I + 1)).foldl M.stepN 0 = M.stepN T x := by
        rw [List.take_add_one, hx]; simp [HT.out]
      have HN := Lib.hid hnext
      have hu : (byV ps)[I]? = some (.int .u8 (x : Int)) := by simp [byV, hx]
      rcases a2 with _ | ad
      · have := (h2.1 rfl).1; subst this; simp at hx
      · obtain ⟨g, rfl⟩ := ha ad rfl
        have kx := h2.2 _ rfl I _ hu
        rw [add_at] at kx
        clear hu hx hnext
        go_wp2_with fail
        refine (ref_Step T x _ hT1 hx2).mono ?_
        rintro e w2 ⟨rfl, rfl⟩
        go_wp2
        go_round
        case rel => exact ⟨I + 1, by go_num, by omega, by rw [HN.out], trivial⟩
        case measure => simp [intOf]; omega
    · obtain rfl : I = L + 4 := by omega
      go_wp2
      go_ret
      refine ⟨ret_int ?_, hb1⟩
      rw [HS.out, ← HT.out, ← hlen, List.take_length]
end Go.Proofs.Ytgmkmlfppblpfaa

/- The contracts of hash.padded and hash.Of. -/
import Derived.Test.YtkodhpjmmiapaaaCat2
namespace Go.Proofs.Ytkodhpjmmiapaaa
open Go.RowKit
set_option linter.unusedVariables false
set_option linter.unusedSimpArgs false
theorem own_lower {W : World} {base base' : Nat} {e : TypeId} {size : Nat} {v : Value} {k : Nat} {xs : List Value} (h : W.ownsRow base e size v k xs) (hb : base' ≤ base) : W.ownsRow base' e size v k xs := by
  rcases h with ⟨h0, h | ⟨g, cap, cur, h1, h2, h3⟩⟩
  · exact ⟨h0, .inl h⟩
  · exact ⟨h0, .inr ⟨g, cap, cur, h1, Nat.le_trans hb h2, h3⟩⟩
theorem add_at (g j : Nat) : (⟨g, 0, none⟩ : Addr).add j = ⟨g, j, none⟩ := by
  unfold Addr.add
  by_cases h : j = 0
  · subst h; rfl
  · rw [if_neg h]; simp
theorem own_rowB {W : World} {base : Nat} {v : Value} {ys : List Nat} {e : TypeId} (h : W.ownsRow base e 1 v ys.length (byV ys)) :
    ∃ a c, v = .slice a ys.length c ∧ RowB W a c ys ∧ ∀ ad, a = some ad → ∃ g, ad = ⟨g, 0, none⟩ := by
  rcases h.2 with ⟨h1, h2⟩ | ⟨g, cap, cur, h1, h2, h3, h4, h5, h6, h7⟩
  · have : ys = [] := List.length_eq_zero_iff.1 h2
    subst this
    exact ⟨none, 0, h1, ⟨fun _ => ⟨rfl, rfl⟩, fun ad e => by cases e⟩, fun ad e => by cases e⟩
  · refine ⟨_, cap, h1, ⟨fun e => by (cases e), fun ad e => ?_⟩, fun ad e => ⟨g, by cases e; rfl⟩⟩
    cases e
    intro j u hu
    have hj : j < ys.length := by
      have := (List.getElem?_eq_some_iff.1 hu).1
      rwa [byV_len] at this
    rw [← h7, List.getElem?_take, if_pos (by omega)] at hu
    rw [add_at]
    simp only [World.cell?]; rw [h3]; simpa using hu
/-- a text with its length -/
def padN (xs : List Nat) : List Nat := xs ++ litN xs.length 4
theorem padN_len (xs : List Nat) : (padN xs).length = xs.length + 4 := by simp [padN, litN_len]
set_option maxHeartbeats 1600000 in
theorem hash_padded (a : Option Addr) (c : Nat) (xs : List Nat) (w : World) (h : RowB w a c xs) (hl : xs.length ≤ 1048000) :
    Calls Try.prog 59 #[.slice a xs.length c] w fun e w' => ∃ v, e = .returned v ∧ Below w.heap.size w w' ∧ w'.ownsRow w.heap.size 5 1 v (xs.length + 4) (byV (padN xs)) := by
  have HLi := Lib.hid fun w => hash_Little xs.length 4 w (by omega) (by omega)
  obtain ⟨L, hL⟩ : ∃ L, L = xs.length := ⟨_, rfl⟩
  have HL := Lib.hid hL
  rw [← hL] at HLi hl ⊢
  clear hL
  go_enter Try.func59, Try.ntmps59
  go_wp2_with fail
  refine (HLi.out _).mono ?_
  rintro e w1 ⟨v, rfl, hb1, hr⟩
  have hlen := litN_len 4 L
  obtain ⟨a2, c2, rfl, h2, _⟩ : ∃ a c, v = .slice a (litN L 4).length c ∧ RowB w1 a c (litN L 4) ∧ ∀ ad, a = some ad → ∃ g, ad = ⟨g, 0, none⟩ := own_rowB (by rw [hlen]; exact hr)
  rw [hlen]
  go_wp2_with fail
  have hB1 : Below w1.heap.size w1 (w1.alloc (.cells #[.slice a L c, .slice a2 4 c2] 31)) := (Below.refl _ _).alloc (Nat.le_refl _) _
  have r1 := (h.below hb1 (Nat.le_refl _)).below hB1 (Nat.le_refl _)
  have r2 := h2.below hB1 (Nat.le_refl _)
  have hx := HL.out
  subst hx
  refine (slices_Concat w1.heap.size a a2 c c2 xs (litN xs.length 4) _ (by simp) (by simp) (by simp [litN_len]) r1 r2 (by rw [litN_len]; omega) (by rw [litN_len]; omega)).mono ?_
  rintro e w2 ⟨v, rfl, hb2, hr2⟩
  go_wp2
  go_ret
  refine ⟨v, rfl, ?_, ?_⟩
  · exact below_two hb1 (below_two hB1 hb2)
  · rw [litN_len] at hr2
    exact own_lower hr2 (by have := hb1.size; simp; omega)
/-- the sum of a text -/
def sumN (xs : List Nat) : Nat := (padN xs).foldl M.stepN 0
theorem fold_lt (xs : List Nat) : ∀ h, h < 65536 → xs.foldl M.stepN h < 65536 := by
  induction xs with
  | nil => intro h hh; exact hh
  | cons x t ih => intro h hh; exact ih _ (M.stepN_lt h x)
theorem litN_lt (m : Nat) : ∀ n, ∀ x ∈ litN n m, x < 256 := by
  induction m with
  | zero => intro n x hx; simp [litN] at hx
  | succ m ih =>
    intro n x hx
    simp only [litN, List.mem_cons] at hx
    rcases hx with rfl | hx
    · exact Nat.mod_lt _ (by omega)
    · exact ih _ _ hx
set_option maxHeartbeats 1600000 in
theorem hash_Of (a : Option Addr) (c : Nat) (xs : List Nat) (w : World) (h : RowB w a c xs) (hl : xs.length ≤ 1048000) (hx : ∀ x ∈ xs, x < 256) :
    Calls Try.prog 51 #[.slice a xs.length c] w fun e w' => e = .returned (.int .u32 (sumN xs)) ∧ Below w.heap.size w w' := by
  have HP := Lib.hid (hash_padded a c xs w h hl)
  have hps : ∀ x ∈ padN xs, x < 256 := fun x hm => by
    rcases List.mem_append.1 hm with h | h
    · exact hx x h
    · exact litN_lt _ _ x h
  have HS := Lib.hid (show sumN xs = (padN xs).foldl M.stepN 0 from rfl)
  have HPL := Lib.hid (padN_len xs)
  obtain ⟨S, hS⟩ : ∃ S, sumN xs = S := ⟨_, rfl⟩
  rw [hS] at HS ⊢
  obtain ⟨L, hL⟩ : ∃ L, L = xs.length := ⟨_, rfl⟩
  rw [← hL] at HP hl HPL ⊢
  have hlen := HPL.out
  obtain ⟨ps, hps'⟩ : ∃ ps, padN xs = ps := ⟨_, rfl⟩
  rw [hps'] at HP hps HS HPL hlen
  clear hL hps' hS h hx
  have HX := Lib.hid hps
  clear hps
  go_enter Try.func51, Try.ntmps51
  go_wp2_with fail
  refine HP.out.mono ?_
  rintro e w1 ⟨v, rfl, hb1, hr⟩
  obtain ⟨a2, c2, rfl, h2, ha⟩ : ∃ a c, v = .slice a ps.length c ∧ RowB w1 a c ps ∧ ∀ ad, a = some ad → ∃ g, ad = ⟨g, 0, none⟩ := own_rowB (by rw [HPL.out]; exact hr)
  rw [HPL.out]
  clear hr
  go_wp2
  go_loopw [3, 9] (fun h i wr => ∃ I : Nat, i = .int .i64 I ∧ I ≤ L + 4 ∧ h = .int .u32 (((ps.take I).foldl M.stepN 0 : Nat) : Int) ∧ w1 = wr) (fun _ i _ => L + 4 - (intOf i).toNat)
  case atStart => exact ⟨0, rfl, by omega, by simp, rfl⟩
  case round =>
    obtain ⟨I, rfl, hI, rfl, rfl⟩ := hrel
    obtain ⟨T, hT⟩ : ∃ T, (ps.take I).foldl M.stepN 0 = T := ⟨_, rfl⟩
    have hT1 : T < 65536 := by rw [← hT]; exact fold_lt _ _ (by omega)
    rw [hT]
    have HT := Lib.hid hT
    clear hT
    by_cases hlt : I < L + 4
    · obtain ⟨x, hx⟩ : ∃ x, ps[I]? = some x := ⟨_, List.getElem?_eq_getElem (by rw [hlen]; exact hlt)⟩
      have hx2 : x < 256 := HX.out x (List.mem_of_getElem? hx)
      have hn : HT.out = HT.out := rfl
      have hnext : (ps.take (I + 1)).foldl M.stepN 0 = M.stepN T x := by
        rw [List.take_add_one, hx]; simp [HT.out]
      have HN := Lib.hid hnext
      have hu : (byV ps)[I]? = some (.int .u8 (x : Int)) := by simp [byV, hx]
      rcases a2 with _ | ad
      · have := (h2.1 rfl).1; subst this; simp at hx
      · obtain ⟨g, rfl⟩ := ha ad rfl
        have kx := h2.2 _ rfl I _ hu
        rw [add_at] at kx
        clear hu hx hnext hn
        go_wp2_with fail
        refine (hash_Step T x _ hT1 hx2).mono ?_
        rintro e w2 ⟨rfl, rfl⟩
        go_wp2
        go_round
        case rel => exact ⟨I + 1, by go_num, by omega, by rw [HN.out], trivial⟩
        case measure => simp [intOf]; omega
    · obtain rfl : I = L + 4 := by omega
      go_wp2
      go_ret
      refine ⟨ret_int ?_, hb1⟩
      rw [HS.out, ← HT.out, ← hlen, List.take_length]
/-- a slice of numbers that came in -/
def IsRow (k : IntKind) (W : World) (a : Option Addr) (len cap : Nat) (zs : List Int) : Prop :=
  (a = none ∧ len = 0 ∧ cap = 0 ∧ zs = []) ∨ ∃ ad, a = some ad ∧ len ≤ cap ∧ cap ≤ maxLen ∧ zs.length = cap ∧ (∀ i, i < zs.length → W.cell? (ad.add i) = some (.int k (zs.getD i 0))) ∧ (∀ n ∈ zs, (Lit.int k n).wf = true)
theorem wf8 {a : Int} (h : (Lit.int .u8 a).wf = true) : 0 ≤ a ∧ a ≤ 255 := by
  simpa [Lit.wf, IntKind.min, IntKind.max, IntKind.signed, go_sem] using h
theorem IsRow.bytes {W : World} {a : Option Addr} {len cap : Nat} {zs : List Int} (h : IsRow .u8 W a len cap zs) : ∃ xs : List Nat, xs.length = len ∧ RowB W a cap xs ∧ (∀ x ∈ xs, x < 256) ∧ len ≤ maxLen := by
  rcases h with ⟨rfl, rfl, rfl, rfl⟩ | ⟨ad, rfl, hl, hm, hz, hc, hw⟩
  · exact ⟨[], rfl, ⟨fun _ => ⟨rfl, rfl⟩, fun ad e => by cases e⟩, fun x hx => by simp at hx, by unfold maxLen; omega⟩
  · refine ⟨(zs.take len).map Int.toNat, by simp; omega, ⟨fun e => (by cases e), fun ad' e j u hu => ?_⟩, fun x hx => ?_, Nat.le_trans hl hm⟩
    · cases e
      have hj : j < len := by
        have := (List.getElem?_eq_some_iff.1 hu).1
        simp [byV] at this; omega
      have e1 := hc j (by omega)
      rw [e1]
      have hg : zs[j]? = some (zs.getD j 0) := by rw [List.getD_eq_getElem?_getD, List.getElem?_eq_getElem (by omega)]; rfl
      have w := wf8 (hw _ (List.mem_of_getElem? hg))
      simp only [byV, List.getElem?_map, List.getElem?_take, if_pos hj, hg, Option.map_some] at hu
      rw [← Option.some.inj hu]
      congr 2
      omega
    · obtain ⟨y, hy, rfl⟩ := List.mem_map.1 hx
      have := wf8 (hw y (List.mem_of_mem_take hy))
      omega
end Go.Proofs.Ytkodhpjmmiapaaa

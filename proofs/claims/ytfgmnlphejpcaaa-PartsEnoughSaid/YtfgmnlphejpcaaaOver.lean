/- Division of polynomials: the contracts of slices.Clone at ints, poly.inverse, poly.Over, poly.Div. -/
import Derived.Test.YtfgmnlphejpcaaaKeep
import Derived.Test.YtfgmnlphejpcaaaBack
import Derived.Test.YtfgmnlphejpcaaaEu2
import Derived.ArgAppend
import Derived.WalkSpells
namespace Go.Proofs.Ytfgmnlphejpcaaa
open Go.RowKit
set_option linter.unusedVariables false
set_option linter.unusedSimpArgs false
set_option maxRecDepth 20000 in
set_option maxHeartbeats 1600000 in
theorem slices_CloneL (a : Option Addr) (c : Nat) (xs : List Int) (w : World) (h : RowL w a c xs) (hl : xs.length ≤ 1048000) :
    Calls Try.prog 56 #[.slice a xs.length c] w fun e w' => ∃ v, e = .returned v ∧ Below w.heap.size w w' ∧ w'.ownsRow w.heap.size 2 1 v xs.length (inV xs) := by
  obtain ⟨i0, hi, hz0, hz1, hz2⟩ := info_parts long_info
  have hu : Try.prog.underlying 22 = some (.slice 2) := by kernel_rfl
  have hnil := fun (w : World) (a : Option Addr) (n c n' c' : Nat) => Lib.run_eql_slice_nil (P := Try.prog) w 22 2 a n c n' c' hu
  obtain ⟨L, hL⟩ : ∃ L, L = xs.length := ⟨_, rfl⟩
  have HL := Lib.hid hL
  have HR := Lib.hid h
  rw [← hL] at hl ⊢
  rcases a with _ | ad
  · have h0 := (h.1 rfl).1
    subst h0
    obtain rfl : L = 0 := by rw [hL]; rfl
    clear h hL
    go_enter Try.func56, Try.ntmps56
    go_wp2
    go_ret
    exact ⟨_, rfl, Below.refl _ _, World.ownsRow_nil _ _ _ _⟩
  · clear h hL
    have hB : Below w.heap.size w (w.alloc (.cells #[] 2)) := (Below.refl _ _).alloc (Nat.le_refl _) _
    have HR2 := Lib.hid (HR.out.below hB (Nat.le_refl _))
    by_cases h0 : L = 0
    · subst h0
      have hx : xs = [] := List.length_eq_zero_iff.1 HL.out.symm
      go_enter Try.func56, Try.ntmps56
      go_wp2_with (first
        | (at_builtin; refine wpList_append_fits_any _ rfl _ _ 22 rfl w.heap.size 2 i0 1 hu hi hz1 w.heap.size 0 0 [] rfl (World.ownsRow_made _ _ _ (Nat.le_refl _) (Nat.zero_le _) (by simp)) (some ad) 0 c [] rfl (by simp) (fun e => by cases e) (fun ad e j u hj => by simp at hj) (by simp) (by omega) ?_; intro w2 hown' hg2))
      go_ret
      refine ⟨_, rfl, hB.grown hg2 (by simp) (fun j hj => by cases hj; omega), ?_⟩
      rw [hx]
      exact hown'
    · go_enter Try.func56, Try.ntmps56
      go_wp2_with (first
        | (at_builtin; refine wpList_append_grows _ rfl _ _ 22 rfl 2 i0 (.int .i64 0) 1 8 hu hi hz0 hz1 hz2 rfl (by decide) (some ⟨w.heap.size, 0, none⟩) 0 0 [] rfl (fun e => by cases e) rfl (fun b e j u hj => by simp at hj) ad L c (inV xs) rfl (by rw [inV_len, Nat.mul_one]; exact HL.out.symm) (HR2.out.2.1 _ rfl) (inV_one xs) (by omega) (by unfold maxLen; omega) (by omega) ?_; intro v' w2 hown' hg2))
      go_ret
      refine ⟨v', rfl, hB.grown hg2 (by simp) (fun j hj => by cases hj), ?_⟩
      refine own_lower ?_ (show w.heap.size ≤ w.heap.size + 1 by omega)
      simpa using hown'

set_option maxHeartbeats 800000 in
theorem poly_inverse (x p : Int) (w : World) (h1 : 1 ≤ x) (h2 : x < p) (h3 : p ≤ 251) (hp : prB p = true) :
    Calls Try.prog 46 #[.int .i64 x, .int .i64 p] w fun e w' => (∃ y, e = .returned (.int .i64 y) ∧ 0 ≤ y ∧ y < p ∧ y * x % p = 1) ∧ Below w.heap.size w w' := by
  have HI := Lib.hid fun w => euclid_Inverse x p w (by omega) (by omega) (by omega) (by omega)
  go_enter Try.func46, Try.ntmps46
  go_wp2_with fail
  refine (HI.out _).mono ?_
  rintro e w' ⟨(⟨_, y, rfl, y1, y2, y3⟩ | ⟨hne, _⟩), hb⟩
  · have HY : Hid (y * x % p = 1) := Lib.hid (by
      have := Int.emod_eq_emod_iff_emod_sub_eq_zero.2 (Int.emod_eq_zero_of_dvd y3)
      rw [this, Int.emod_eq_of_lt (by omega) (by omega)])
    clear y3
    go_wp2
    go_ret
    exact ⟨⟨y, rfl, y1, y2, HY.out⟩, hb⟩
  · exfalso
    obtain ⟨P, rfl⟩ := Int.eq_ofNat_of_zero_le (show 0 ≤ p by omega)
    have hP : M.Pr P := by simpa using prB_true hp
    refine hne ?_
    rw [Int.gcd_comm]
    refine hP.gcd_int fun hd => ?_
    have := Int.le_of_dvd (by omega) hd
    omega
/-- where the loop of Over stands -/
structure DivInv (p : Int) (a b q r : List Int) : Prop where
  qr : ∀ x ∈ q, 0 ≤ x ∧ x < p
  ql : q.getLastD 1 ≠ 0
  rr : ∀ x ∈ r, 0 ≤ x ∧ x < p
  rl : r.getLastD 1 ≠ 0
  eq : ∀ i, (conv (co q) (co b) i + co r i) % p = co a i % p
  rlen : r.length ≤ a.length
  qlen : q.length ≤ a.length + 1
theorem conv_nil (B : Nat → Int) (i : Nat) : conv (co []) B i = 0 := SumI_zero fun j _ => by rw [co_out (by simp), Int.zero_mul]
theorem conv_shift (B : Nat → Int) (up i : Nat) : conv (fun j => if up ≤ j then co [1] (j - up) else 0) B i = if up ≤ i then B (i - up) else 0 := by
  unfold conv
  by_cases h : up ≤ i
  · rw [if_pos h, SumI_single (k := up) (by omega) (fun j hj hne => by
      dsimp only
      by_cases h2 : up ≤ j
      · rw [if_pos h2, co_out (by simp; omega), Int.zero_mul]
      · rw [if_neg h2, Int.zero_mul])]
    dsimp only
    rw [if_pos (Nat.le_refl _), Nat.sub_self]
    show 1 * _ = _
    rw [Int.one_mul]
  · rw [if_neg h, SumI_zero fun j hj => by dsimp only; rw [if_neg (by omega), Int.zero_mul]]
theorem div_init {p : Int} {a b : List Int} (ha : ∀ x ∈ a, 0 ≤ x ∧ x < p) (hl : a.getLastD 1 ≠ 0) : DivInv p a b [] a :=
  ⟨fun x hx => by simp at hx, by simp, ha, hl, fun i => by rw [conv_nil, Int.zero_add], Nat.le_refl _, by simp⟩
theorem div_step {p lead : Int} {a b q r : List Int} (hp : 1 ≤ p) (h : DivInv p a b q r) (hb0 : 0 < b.length) (hlen : b.length ≤ r.length) (hlead : lead * co b (b.length - 1) % p = 1) (k : Int) (hk : k = co r (r.length - 1) * lead % p) (up : Nat) (hup : r.length = b.length + up) :
    DivInv p a b (plusL p q [1] k up) (plusL p r b (-k) up) ∧ (plusL p r b (-k) up).length < r.length := by
  have hlt : (plusL p r b (-k) up).length ≤ r.length - 1 := by
    refine len_le (plusL_last _ _ _ _ _) fun i hi => ?_
    rw [co_plus hp h.rr]
    by_cases he : i = r.length - 1
    · subst he
      rw [if_pos (by omega), show r.length - 1 - up = b.length - 1 by omega]
      obtain ⟨x, hx⟩ : ∃ x, co r (r.length - 1) = x := ⟨_, rfl⟩
      obtain ⟨y, hy⟩ : ∃ x, co b (b.length - 1) = x := ⟨_, rfl⟩
      rw [hx] at hk ⊢
      rw [hy] at hlead ⊢
      have e1 := Int.mul_ediv_add_emod (x * lead) p
      have e2 := Int.mul_ediv_add_emod (lead * y) p
      rw [← hk] at e1
      rw [hlead] at e2
      refine Int.emod_eq_zero_of_dvd ⟨x * lead / p * y - x * (lead * y / p), ?_⟩
      obtain ⟨t, ht⟩ : ∃ t, x * lead / p = t := ⟨_, rfl⟩
      obtain ⟨u, hu⟩ : ∃ t, lead * y / p = t := ⟨_, rfl⟩
      rw [ht] at e1 ⊢
      rw [hu] at e2 ⊢
      grind
    · rw [co_out (by omega), if_pos (by omega), co_out (by omega)]; simp
  refine ⟨⟨plusL_rng hp h.qr, plusL_last _ _ _ _ _, plusL_rng hp h.rr, plusL_last _ _ _ _ _, fun i => ?_, by have := h.rlen; omega, ?_⟩, by omega⟩
  · rw [← h.eq i, co_plus hp h.rr, Int.add_emod, conv_mod (A' := fun j => co q j + k * (if up ≤ j then co [1] (j - up) else 0)) (B' := co b) (fun j => by rw [co_plus hp h.qr, Int.emod_emod]) (fun j => rfl), Int.emod_emod, ← Int.add_emod, conv_add, conv_mul, conv_shift, Int.neg_mul]
    congr 1
    omega
  · have h1 := plusL_len p q [1] k up
    have h2 := h.qlen
    have h3 := h.rlen
    simp at h1
    omega
theorem rowL_new (w : World) (v : Int) : RowL (w.alloc (.cells #[.int .i64 v] 2)) (some ⟨w.heap.size, 0, none⟩) 1 [v] := by
  refine ⟨fun e => (by cases e), fun ad e j u hu => ?_, by simp⟩
  cases e
  rw [add_at]
  cases j with
  | zero => simp [inV] at hu; subst hu; simp [go_sem]
  | succ j => simp [inV] at hu
set_option maxRecDepth 20000 in
set_option maxHeartbeats 3200000 in
theorem poly_Over (p : Int) (a b : Option Addr) (c d : Nat) (xs ys : List Int) (w : World) (hp : 2 ≤ p) (hp2 : p ≤ 251) (hpr : prB p = true) (h1 : RowL w a c xs) (h2 : RowL w b d ys) (l1 : xs.length ≤ 400) (l2 : ys.length ≤ 400)
    (x1 : ∀ x ∈ xs, 0 ≤ x ∧ x < p) (x2 : ∀ x ∈ ys, 0 ≤ x ∧ x < p) (la : xs.getLastD 1 ≠ 0) (lb : ys.getLastD 1 ≠ 0) (hb0 : 0 < ys.length) :
    Calls Try.prog 45 #[.int .i64 p, .slice a xs.length c, .slice b ys.length d] w fun e w' =>
      (∃ (aq ar : Option Addr) (cq cr : Nat) (qs rs : List Int), e = .returned (.tuple #[.slice aq qs.length cq, .slice ar rs.length cr]) ∧ RowL w' aq cq qs ∧ RowL w' ar cr rs ∧ DivInv p xs ys qs rs ∧ rs.length < ys.length) ∧ Below w.heap.size w w' := by
  obtain ⟨m, hm⟩ : ∃ m, ys.length = m + 1 := ⟨ys.length - 1, by omega⟩
  obtain ⟨y, hy⟩ : ∃ y, ys[m]? = some y := ⟨_, List.getElem?_eq_getElem (by omega)⟩
  have hyl : y ≠ 0 := by rw [getLastD_at hy hm] at lb; exact lb
  have hyr := x2 y (List.mem_of_getElem? hy)
  have hyc : co ys (ys.length - 1) = y := by unfold co; rw [hm, Nat.add_sub_cancel, List.getD_eq_getElem?_getD, hy]; rfl
  have HC := Lib.hid (slices_CloneL a c xs w h1 (by omega))
  have HI := Lib.hid fun w => poly_inverse y p w (by omega) hyr.2 hp2 hpr
  have HR2 := Lib.hid h2
  have H0 := Lib.hid (div_init (p := p) (b := ys) x1 la)
  have HSt := Lib.hid fun (lead : Int) (q r : List Int) (k : Int) (up : Nat) (h : DivInv p xs ys q r) => div_step (show 1 ≤ p by omega) h hb0 (up := up) (k := k) (lead := lead)
  rw [hyc] at HSt
  have HPl := Lib.hid fun (q z : List Int) (aq az : Option Addr) (cq cz : Nat) (k : Int) (up : Nat) (w' : World) (l3 : q.length ≤ 1000) (l4 : z.length ≤ 1000) (hk : -251 ≤ k ∧ k ≤ 251) (hu : up ≤ 1000) (hq : RowL w' aq cq q) (hz : RowL w' az cz z) (x3 : ∀ x ∈ q, 0 ≤ x ∧ x < p) (x4 : ∀ x ∈ z, 0 ≤ x ∧ x < p) => poly_Plus p k up aq az cq cz q z w' (by omega) hp2 (by omega) (by omega) hu hq hz l3 l4 x3 x4
  have HY := Lib.hid hy
  have HM := Lib.hid hm
  have HX2 := Lib.hid x2
  obtain ⟨b1, o1, rfl, hcell⟩ := h2.shape (by omega)
  obtain ⟨La, hLa⟩ : ∃ L, xs.length = L := ⟨_, rfl⟩
  have HLa := Lib.hid hLa
  rw [hLa] at HC l1 ⊢
  rw [hm] at l2 ⊢
  clear hy hm hyc hLa h1 h2 x1 x2 la lb hb0 hcell
  go_enter Try.func45, Try.ntmps45
  go_wp2_with fail
  refine HC.out.mono ?_
  rintro e w1 ⟨v, rfl, hb1, hown⟩
  rw [← HLa.out] at hown
  obtain ⟨ar0, cr0, rfl, hr0⟩ := own_rowL hown
  rw [HLa.out]
  have hy1 := (HR2.out.below hb1 (Nat.le_refl _)).shape (by rw [HM.out]; omega)
  obtain ⟨_, _, e0, hcell⟩ := hy1
  cases e0
  have ky := hcell m y HY.out
  clear hcell hown
  go_wp2_with fail
  refine (HI.out _).mono ?_
  rintro e w2 ⟨⟨lead, rfl, d1, d2, d3⟩, hb2⟩
  have HSt2 := Lib.hid (HSt.out lead)
  have D3 := Lib.hid d3
  have hr2 := hr0.below hb2 (Nat.le_refl _)
  have hb := below_two hb1 hb2
  clear HSt d3 hr0 hb1 hb2 ky
  go_wp2
  rw [← HLa.out]
  go_loopw [8, 9] (fun vq vr wr => ∃ (qs rs : List Int) (aq ar : Option Addr) (cq cr : Nat), vq = .slice aq qs.length cq ∧ vr = .slice ar rs.length cr ∧ DivInv p xs ys qs rs ∧ RowL wr aq cq qs ∧ RowL wr ar cr rs ∧ Below w.heap.size w wr) (fun _ vr _ => match vr with | .slice _ k _ => k | _ => 0)
  case atStart => exact ⟨[], xs, none, ar0, 0, cr0, rfl, rfl, H0.out, RowL.nil _, hr2, hb⟩
  case round =>
    clear hr2 hb
    obtain ⟨qs, rs, aq, ar, cq, cr, rfl, rfl, hd, hq, hr, hb⟩ := hrel
    obtain ⟨nq, hnq⟩ : ∃ n, qs.length = n := ⟨_, rfl⟩
    obtain ⟨nr, hnr⟩ : ∃ n, rs.length = n := ⟨_, rfl⟩
    have l3 := hd.qlen
    have l4 := hd.rlen
    rw [HLa.out] at l3 l4
    by_cases hlt : m < nr
    · obtain ⟨n, rfl⟩ : ∃ n, nr = n + 1 := ⟨nr - 1, by omega⟩
      obtain ⟨up, hup⟩ : ∃ up, n = m + up := ⟨n - m, by omega⟩
      obtain ⟨x, hx⟩ : ∃ x, rs[n]? = some x := ⟨_, List.getElem?_eq_getElem (by omega)⟩
      obtain ⟨b2, o2, rfl, hcell⟩ := hr.shape (by omega)
      have kx := hcell n x hx
      have hxr := hd.rr x (List.mem_of_getElem? hx)
      have hxc : co rs (rs.length - 1) = x := by unfold co; rw [hnr, Nat.add_sub_cancel, List.getD_eq_getElem?_getD, hx]; rfl
      obtain ⟨m1, m2⟩ := mul_bd2 hp2 hxr.1 hxr.2 d1 d2
      have r1 := Int.emod_nonneg (x * lead) (show p ≠ 0 by omega)
      have r2 := Int.emod_lt_of_pos (x * lead) (show 0 < p by omega)
      obtain ⟨hd2, hlt2⟩ := HSt2.out qs rs (x * lead % p) up hd (by rw [HM.out]; omega) D3.out (by rw [hxc]) (by rw [hnr, HM.out]; omega)
      have HP1 := Lib.hid fun w' (h1 : RowL w' aq cq qs) (h2 : RowL w' (some ⟨wr.heap.size, 0, none⟩) 1 [1]) => HPl.out qs [1] aq (some ⟨wr.heap.size, 0, none⟩) cq 1 (x * lead % p) up w' (by omega) (by simp) (by omega) (by omega) h1 h2 hd.qr (by simp; omega)
      have HP2 := Lib.hid fun w' (h1 : RowL w' (some ⟨b2, o2, none⟩) cr rs) (h2 : RowL w' (some ⟨b1, o1, none⟩) d ys) => HPl.out rs ys (some ⟨b2, o2, none⟩) (some ⟨b1, o1, none⟩) cr d (-(x * lead % p)) up w' (by omega) (by rw [HM.out]; omega) (by omega) (by omega) h1 h2 hd.rr HX2.out
      rw [show (up : Int) = (n : Int) + 1 - ((m : Int) + 1) by omega, hnq] at HP1
      rw [show (up : Int) = (n : Int) + 1 - ((m : Int) + 1) by omega, hnr, HM.out] at HP2
      rw [hnq, hnr]
      have HD2 := Lib.hid hd2
      have HLT := Lib.hid (hnr ▸ hlt2)
      have HQ := Lib.hid hq
      have HR := Lib.hid hr
      have hn : n ≤ 400 := by omega
      have HUP := Lib.hid hup
      clear hup l3 l4
      clear hcell hx hxc hd hnq hd2 hlt2 hq hr hxr
      go_wp2_with fail
      refine (HP1.out _ (HQ.out.below (alloc_below wr _) (Nat.le_refl _)) (rowL_new wr 1)).mono ?_
      rintro e w3 ⟨⟨aq2, cq2, rfl, hq2⟩, hb3⟩
      have hbA := below_two (alloc_below wr _) hb3
      go_wp2_with fail
      refine (HP2.out _ (HR.out.below hbA (Nat.le_refl _)) ((HR2.out.below hb (Nat.le_refl _)).below hbA (Nat.le_refl _))).mono ?_
      rintro e w4 ⟨⟨ar2, cr2, rfl, hr2⟩, hb4⟩
      go_wp2
      go_round
      case rel => exact ⟨_, _, aq2, ar2, cq2, cr2, rfl, rfl, HD2.out, hq2.below hb4 (Nat.le_refl _), hr2, below_two (below_two hb hbA) hb4⟩
      case measure => have := HLT.out; simp; omega
    · rw [hnq, hnr]
      have HQ := Lib.hid hq
      have HR := Lib.hid hr
      have HD := Lib.hid hd
      have HNQ := Lib.hid hnq
      have HNR := Lib.hid hnr
      clear hq hr hd hnq hnr
      go_wp2
      go_ret2
      refine ⟨⟨aq, ar, cq, cr, qs, rs, ?_, HQ.out, HR.out, HD.out, by rw [HNR.out]; omega⟩, hb⟩
      rw [HNQ.out, HNR.out]; rfl
end Go.Proofs.Ytfgmnlphejpcaaa

/- Contracts of package field: poly, number, mul, pow. -/
import Derived.Test.YtkkefbjmdbjbhaaFldG
import Derived.Test.YtkkefbjmdbjbhaaTim
import Derived.Test.YtkkefbjmdbjbhaaPow
import Derived.Test.YtkkefbjmdbjbhaaHold
namespace Go.Proofs.Ytkkefbjmdbjbhaa
open Go.RowKit
set_option linter.unusedVariables false
set_option linter.unusedSimpArgs false
theorem cell_newL (w : World) (v : Value) (T : TypeId) (hv : v.oneCell' = true) : ∀ (j : Nat) (u : Value), [v][j]? = some u → (w.alloc (.cells #[v] T)).cell? ((⟨w.heap.size, 0, none⟩ : Addr).add j) = some u := by
  intro j u hu
  match j, hu with
  | 0, hu => cases hu; simp [go_sem, Addr.add]
  | j + 1, hu => simp at hu
set_option maxHeartbeats 3200000 in
theorem field_poly (p a : Nat) (sz : Int) (af : Option Addr) (Lf cf N : Nat) (w : World) (hp : 2 ≤ p) (hp2 : p ≤ 251) (ha : a ≤ 1048576) (hN : (digL p a).length = N) :
    Calls Try.prog 20 #[.agg #[.int .i64 p, .int .i64 sz, .slice af Lf cf], .int .i64 a] w fun e w' => (∃ a' c', e = .returned (.slice a' N c') ∧ RowL w' a' c' (digL p a)) ∧ Below w.heap.size w w' := by
  obtain ⟨i0, hi, hz0, hz1, hz2⟩ := info_parts long_info
  have hu : Try.prog.underlying 22 = some (.slice 2) := by kernel_rfl
  have HN := Lib.hid hN
  have hN21 : N ≤ 21 := by
    rw [← hN]
    refine dig_len hp 21 a (Nat.lt_of_lt_of_le (show a < 2 ^ 21 by omega) (Nat.pow_le_pow_left hp 21))
  clear hN
  go_enter Try.func20, Try.ntmps20
  go_wp2
  have hb0 : Below w.heap.size w (w.alloc (.cells #[.int .i64 p, .int .i64 sz, .slice af Lf cf] 38)) := (Below.refl _ _).alloc (Nat.le_refl _) _
  obtain ⟨w1, hw1⟩ : ∃ W, W = w.alloc (.cells #[.int .i64 p, .int .i64 sz, .slice af Lf cf] 38) := ⟨_, rfl⟩
  have k0 : w1.cell? ⟨w.heap.size, 0, none⟩ = some (.int .i64 p) := by rw [hw1]; simp [go_sem]
  have z1 : w.heap.size < w1.heap.size := by rw [hw1]; simp
  rw [← hw1] at hb0 ⊢
  clear hw1
  go_loopw [1, 5] (fun av v wr => ∃ (r : Nat) (pre : List Int), av = .int .i64 r ∧ r ≤ a ∧ Hid (digL p a = pre ++ digL p r) ∧ pre.length ≤ N ∧ Below w1.heap.size w1 wr ∧ wr.ownsRow w1.heap.size 2 1 v pre.length (inV pre)) (fun av _ _ => (intOf av).toNat)
  case atStart => exact ⟨a, [], rfl, Nat.le_refl _, Lib.hid rfl, Nat.zero_le _, Below.refl _ _, World.ownsRow_nil _ _ _ _⟩
  case round =>
    obtain ⟨r, pre, rfl, hr, HP, hpl, hb, ho⟩ := hrel
    have hz := hb.size
    have kk := kept hb k0 z1
    by_cases h0 : 0 < r
    · have HD := Lib.hid (digL_cons hp h0)
      have hpl2 : pre.length + 1 ≤ N := by rw [← HN.out, HP.out, HD.out]; simp
      have m1 : (r : Int).tmod p = ((r % p : Nat) : Int) := by rw [Int.tmod_eq_emod_of_nonneg (by omega)]; norm_cast
      have m2 : (r : Int) % p = ((r % p : Nat) : Int) := by norm_cast
      have m3 : (r : Int).tdiv p = ((r / p : Nat) : Int) := by rw [Int.tdiv_eq_ediv_of_nonneg (by omega)]; norm_cast
      have m4 : (r : Int) / p = ((r / p : Nat) : Int) := by norm_cast
      have hlt : r / p < r := Nat.div_lt_self h0 (by omega)
      have hx := Nat.mod_lt r (show 0 < p by omega)
      obtain ⟨x, hxe⟩ : ∃ x, r % p = x := ⟨_, rfl⟩
      obtain ⟨y, hye⟩ : ∃ x, r / p = x := ⟨_, rfl⟩
      rw [hxe] at m1 m2 hx HD
      rw [hye] at m3 m4 hlt HD
      clear hxe hye
      have z2 : ((p : Int) == 0) = false := by simp; omega
      have z3 : ¬ (p : Int) = 0 := by omega
      have z4 : ¬ p = 0 := by omega
      obtain ⟨Lp, hLp⟩ : ∃ Lp, pre.length = Lp := ⟨_, rfl⟩
      rw [hLp] at ho hpl2 hpl
      have HLP := Lib.hid hLp
      clear hLp
      have neA : ¬ w.heap.size = wr.heap.size := by omega
      have neB : ¬ wr.heap.size = w.heap.size := by omega
      go_wp2_with (first
        | (at_builtin; refine wpList_append_own _ rfl _ _ 22 rfl w1.heap.size 2 i0 (.int .i64 0) 1 8 hu hi hz0 hz1 hz2 rfl (by decide) _ _ _ rfl (ho.alloc _) ⟨wr.heap.size, 0, none⟩ 1 1 [.int .i64 (x : Int)] rfl rfl (cell_newL _ _ _ rfl) (by simp [Value.oneCell']) (by unfold maxLen; omega) (by omega) (by simp; omega) ?_; intro v' w2 hown' hg2 hnil2; have kk2 := ((hb.alloc hz (.cells #[.int .i64 (x : Int)] 2)).grown hg2 (by simp; omega) (fun j hj => (ho.lt j hj).1)); have kk3 := kept kk2 k0 z1))
      go_roundw
      case rel =>
        exact ⟨y, pre ++ [(x : Int)], by go_num, by omega, Lib.hid (by rw [HP.out, HD.out]; simp), by rw [List.length_append, HLP.out]; simp; omega, kk2, by rw [List.length_append, HLP.out]; simpa [inV] using hown'⟩
      case measure => simp [intOf]; omega
    · obtain rfl : r = 0 := by omega
      have HE : Hid (pre = digL p a) := Lib.hid (by rw [HP.out, digL_zero]; simp)
      clear HP
      obtain ⟨a', c', rfl, hrow⟩ := own_rowL ho
      have HR : Hid (RowL wr a' c' (digL p a)) := Lib.hid (by rw [HE.out] at hrow; exact hrow)
      have HL : Hid (pre.length = N) := Lib.hid (by rw [HE.out]; exact HN.out)
      clear hrow ho
      rw [HL.out]
      go_wp2
      go_ret
      exact ⟨⟨a', c', rfl, HR.out⟩, below_two hb0 hb⟩
theorem num_drop {p k : Nat} {l : List Int} {x : Int} (h : l[k]? = some x) : numL p (l.drop k) = numL p (l.drop (k + 1)) * p + x.toNat := by
  obtain ⟨hk, e⟩ := List.getElem?_eq_some_iff.1 h
  rw [List.drop_eq_getElem_cons hk, e]; rfl
theorem num_drop_lt {p m : Nat} (hp : 2 ≤ p) {l : List Int} (hr : ∀ x ∈ l, 0 ≤ x ∧ x < (p : Int)) (hl : l.length ≤ m) (k : Nat) : numL p (l.drop k) < p ^ m :=
  Nat.lt_of_lt_of_le (num_lt hp fun x hx => hr x (List.mem_of_mem_drop hx)) (Nat.pow_le_pow_right (by omega) (by rw [List.length_drop]; omega))
set_option maxHeartbeats 3200000 in
theorem field_number (p m : Nat) (sz : Int) (af : Option Addr) (Lf cf N : Nat) (ad : Option Addr) (c : Nat) (l : List Int) (w : World) (hp : 2 ≤ p) (hp2 : p ≤ 251) (hs : p ^ m ≤ 4096) (hN : l.length = N) (hm : N ≤ m) (hm2 : m ≤ 12) (hr : ∀ x ∈ l, 0 ≤ x ∧ x < (p : Int)) (h : RowL w ad c l) :
    Calls Try.prog 18 #[.agg #[.int .i64 p, .int .i64 sz, .slice af Lf cf], .slice ad N c] w fun e w' => e = .returned (.int .i64 (numL p l)) ∧ Below w.heap.size w w' := by
  have HR := Lib.hid h
  have HN := Lib.hid hN
  have HX := Lib.hid hr
  have HND := Lib.hid fun k => num_drop_lt (m := m) hp hr (by omega) k
  clear h hN hr
  go_enter Try.func18, Try.ntmps18
  go_wp2
  have hb0 : Below w.heap.size w (w.alloc (.cells #[.int .i64 p, .int .i64 sz, .slice af Lf cf] 38)) := (Below.refl _ _).alloc (Nat.le_refl _) _
  obtain ⟨w1, hw1⟩ : ∃ W, W = w.alloc (.cells #[.int .i64 p, .int .i64 sz, .slice af Lf cf] 38) := ⟨_, rfl⟩
  have k0 : w1.cell? ⟨w.heap.size, 0, none⟩ = some (.int .i64 p) := by rw [hw1]; simp [go_sem]
  rw [← hw1] at hb0 ⊢
  have HR1 := Lib.hid (HR.out.below hb0 (Nat.le_refl _))
  clear hw1
  go_loopw [5, 6] (fun nv i wr => ∃ K : Nat, i = .int .i64 ((K : Int) - 1) ∧ K ≤ N ∧ nv = .int .i64 (numL p (l.drop K)) ∧ ∃ q, wr = w1.drewN q) (fun _ i _ => (intOf i + 1).toNat)
  case atStart => exact ⟨N, rfl, Nat.le_refl _, by rw [List.drop_of_length_le (by rw [HN.out]; exact Nat.le_refl _)]; rfl, 0, rfl⟩
  case round =>
    obtain ⟨K, rfl, hK, rfl, q, rfl⟩ := hrel
    by_cases h0 : K = 0
    · subst h0
      have e : l.drop 0 = l := List.drop_zero
      go_wp2
      go_ret
      exact ⟨by simp, below_drewN hb0 _⟩
    · obtain ⟨k, rfl⟩ : ∃ k, K = k + 1 := ⟨K - 1, by omega⟩
      clear h0
      rw [show (((k + 1 : Nat) : Int) - 1) = (k : Int) by omega]
      obtain ⟨x, hx⟩ : ∃ x, l[k]? = some x := ⟨_, List.getElem?_eq_getElem (by rw [HN.out]; omega)⟩
      have hxr := HX.out x (List.mem_of_getElem? hx)
      obtain ⟨b, o, rfl, hc⟩ := HR1.out.shape (by rw [HN.out]; omega)
      have kx := hc k x hx
      have HD := Lib.hid (num_drop (p := p) hx)
      have n1 := HND.out (k + 1)
      have n2 := HND.out k
      rw [HD.out] at n2
      obtain ⟨M, hM⟩ : ∃ M, numL p (l.drop (k + 1)) = M := ⟨_, rfl⟩
      rw [hM] at HD n1 n2 ⊢
      obtain ⟨X, rfl⟩ := Int.eq_ofNat_of_zero_le hxr.1
      rw [Int.toNat_natCast] at HD n2
      have m0 : ((M : Int) * p) = ((M * p : Nat) : Int) := by norm_cast
      obtain ⟨Q, hQ⟩ : ∃ Q, M * p = Q := ⟨_, rfl⟩
      rw [hQ] at m0 HD n2
      have m1 : IntKind.i64.wrap ((M : Int) * p) = (Q : Int) := by rw [m0]; exact IntWalk.i64_in _ (by omega)
      have m2 : IntKind.i64.wrap ((Q : Int) + X) = (Q : Int) + X := IntWalk.i64_in _ (by omega)
      clear hc hx hM hQ m0
      have i1 : (0 : Int) ≤ k := by omega
      have i2 : (k : Int) < N := by omega
      go_wp2_with fail
      go_quiet (fail)
      go_wp2
      go_roundw
      case rel => exact ⟨k, by go_num, by omega, by rw [HD.out]; go_num, _, rfl⟩
      case measure => simp [intOf]
theorem times_w {p : Int} {a b : Option Addr} {c d : Nat} {xs ys : List Int} {w : World} {La Lb N : Nat} (hp : 1 ≤ p) (hp2 : p ≤ 251) (e1 : xs.length = La) (e2 : ys.length = Lb) (e3 : (timesL p xs ys).length = N) (l1 : La ≤ 400) (l2 : Lb ≤ 400) (x1 : Pl p xs) (x2 : Pl p ys) (h1 : RowL w a c xs) (h2 : RowL w b d ys) :
    Calls Try.prog 27 #[.int .i64 p, .slice a La c, .slice b Lb d] w fun e w' => (∃ a' c', e = .returned (.slice a' N c') ∧ RowL w' a' c' (timesL p xs ys)) ∧ Below w.heap.size w w' := by
  subst e1; subst e2; subst e3
  exact poly_Times p a b c d xs ys w hp hp2 h1 h2 l1 l2 x1.rng x2.rng
theorem over_w {p m : Nat} {a b : Option Addr} {c d : Nat} {xs f : List Int} {w : World} {La Lf N : Nat} (h : Fld p f m) (e1 : xs.length = La) (e2 : f.length = Lf) (e3 : (remL p xs f).length = N) (l1 : La ≤ 400) (x1 : Pl p xs) (h1 : RowL w a c xs) (h2 : RowL w b d f) :
    Calls Try.prog 26 #[.int .i64 p, .slice a La c, .slice b Lf d] w fun e w' => (∃ (v : Value) (a' : Option Addr) (c' : Nat), e = .returned (.tuple #[v, .slice a' N c']) ∧ RowL w' a' c' (remL p xs f)) ∧ Below w.heap.size w w' := by
  subst e1; subst e2; subst e3
  have hl := h.mon.len
  have := h.p2
  have := h.p251
  have := h.m12
  refine (poly_Over p a b c d xs f w (by omega) (by omega) h.pr h1 h2 l1 (by omega) x1.rng h.mon.pl.rng x1.last h.mon.pl.last (by omega)).mono ?_
  rintro e w' ⟨⟨aq, ar, cq, cr, qs, rs, rfl, _, hr, hd, hlt⟩, hb⟩
  obtain rfl := remL_uniq h.pr (by omega) h.mon x1 hd hlt
  exact ⟨⟨_, ar, cr, rfl, hr⟩, hb⟩
set_option maxRecDepth 100000 in
set_option maxHeartbeats 6400000 in
theorem field_mul (p m : Nat) (f : List Int) (sz : Int) (af : Option Addr) (Lf cf a b : Nat) (w : World) (h : Fld p f m) (hf : RowL w af cf f) (hLf : f.length = Lf) (ha : a < p ^ m) (hb : b < p ^ m) :
    Calls Try.prog 17 #[.agg #[.int .i64 p, .int .i64 sz, .slice af Lf cf], .int .i64 a, .int .i64 b] w fun e w' => e = .returned (.int .i64 (mulF p f a b)) ∧ Below w.heap.size w w' := by
  have p2 := h.p2
  have p251 := h.p251
  have m12 := h.m12
  have hsm := h.small
  have hla := dig_len p2 m a ha
  have hlb := dig_len p2 m b hb
  obtain ⟨r1, r2, r3⟩ := h.rem (Pl.times h.ip (digL p a) (digL p b))
  obtain ⟨LA, hLA⟩ : ∃ L, (digL p a).length = L := ⟨_, rfl⟩
  obtain ⟨LB, hLB⟩ : ∃ L, (digL p b).length = L := ⟨_, rfl⟩
  obtain ⟨LT, hLT⟩ : ∃ L, (timesL p (digL p a) (digL p b)).length = L := ⟨_, rfl⟩
  obtain ⟨LR, hLR⟩ : ∃ L, (remL p (timesL p (digL p a) (digL p b)) f).length = L := ⟨_, rfl⟩
  have hlt := timesL_len p (digL p a) (digL p b)
  rw [hLA] at hla hlt
  rw [hLB] at hlb hlt
  rw [hLT] at hlt
  rw [hLR] at r2
  have HPA := Lib.hid fun w => field_poly p a sz af Lf cf LA w p2 p251 (by omega) hLA
  have HPB := Lib.hid fun w => field_poly p b sz af Lf cf LB w p2 p251 (by omega) hLB
  have HT := Lib.hid fun a' c' b' d' w h1 h2 => times_w (p := p) (a := a') (c := c') (b := b') (d := d') (w := w) h.ip (by omega) hLA hLB hLT (by omega) (by omega) (dig_pl p2 a) (dig_pl p2 b) h1 h2
  have HO := Lib.hid fun a' c' w h1 h2 => over_w (a := a') (c := c') (b := af) (d := cf) (w := w) h hLT hLf hLR (by omega) (Pl.times h.ip _ _) h1 h2
  have HNU := Lib.hid fun a' c' w hh => field_number p m sz af Lf cf LR a' c' _ w p2 p251 hsm hLR r2 m12 r1.rng hh
  have HV : Hid (numL p (remL p (timesL p (digL p a) (digL p b)) f) = mulF p f a b) := Lib.hid rfl
  have HF := Lib.hid hf
  clear hf hLA hLB hLT hLR r1 r3
  go_enter Try.func17, Try.ntmps17
  go_wp2_with fail
  obtain ⟨w1, hw1⟩ : ∃ W, W = w.alloc (.cells #[.int .i64 p, .int .i64 sz, .slice af Lf cf] 38) := ⟨_, rfl⟩
  have k0 : w1.cell? ⟨w.heap.size, 0, none⟩ = some (.int .i64 p) := by rw [hw1]; simp [go_sem]
  have k1 : w1.cell? ⟨w.heap.size, 1, none⟩ = some (.int .i64 sz) := by rw [hw1]; simp [go_sem]
  have k2 : w1.cell? ⟨w.heap.size, 2, none⟩ = some (.slice af Lf cf) := by rw [hw1]; simp [go_sem]
  have hbw : Below w.heap.size w w1 := by rw [hw1]; exact (Below.refl _ _).alloc (Nat.le_refl _) _
  have HRF := Lib.hid (HF.out.below hbw (Nat.le_refl _))
  rw [← hw1]
  clear hw1
  refine wp_region_D (S := (fun W : World => Below w1.heap.size w1 W)) (fun _ => true) (by kernel_rfl) (Below.refl _ _).drew (fun hHeld => ?_)
  simp only [List.size_toArray, List.length_cons, List.length_nil, Nat.reduceAdd, Array.replicate_succ, Array.replicate_zero, List.push_toArray, List.append_toArray, List.nil_append, List.cons_append]
  refine WD_free (i := 0) (oi := _) (v := ?_) rfl (by kernel_rfl) (fun _ _ _ h => h) (Or.inl ⟨by rfl, ?_⟩) ?_
  rotate_left
  · (intro W hS; (try dsimp only at hS); clear hS; go_simp; with_reducible rfl)
  try simp only [Act.put, List.getElem_toArray, List.getElem_cons_succ, List.getElem_cons_zero, List.setIfInBounds_toArray, List.set_cons_zero, List.set_cons_succ]
  refine WD_take (i := 1) (oi := _) (v := ?_) rfl (by kernel_rfl) (fun _ _ _ h => h) (Or.inl ⟨by rfl, ?_⟩) (by assumption) ?_
  rotate_left
  · (intro W hS; (try dsimp only at hS); have q0 := (hS.cell (p := ⟨w.heap.size, 0, none⟩) (World.block_lt_of_cell? _ _ k0)).trans k0; clear hS; go_simp; with_reducible rfl)
  try simp only [Act.put, List.getElem_toArray, List.getElem_cons_succ, List.getElem_cons_zero, List.setIfInBounds_toArray, List.set_cons_zero, List.set_cons_succ]
  refine WD_free (i := 2) (oi := _) (v := ?_) rfl (by kernel_rfl) (fun _ _ _ h => h) (Or.inl ⟨by rfl, ?_⟩) ?_
  rotate_left
  · (intro W hS; (try dsimp only at hS); clear hS; go_simp; with_reducible rfl)
  try simp only [Act.put, List.getElem_toArray, List.getElem_cons_succ, List.getElem_cons_zero, List.setIfInBounds_toArray, List.set_cons_zero, List.set_cons_succ]
  refine WD_take (i := 3) (oi := _) (v := ?_) rfl (by kernel_rfl) (fun _ _ _ h => h) (Or.inl ⟨by rfl, ?_⟩) (by assumption) ?_
  rotate_left
  · (intro W hS; (try dsimp only at hS); have q0 := (hS.cell (p := ⟨w.heap.size, 0, none⟩) (World.block_lt_of_cell? _ _ k0)).trans k0; clear hS; go_simp; with_reducible rfl)
  try simp only [Act.put, List.getElem_toArray, List.getElem_cons_succ, List.getElem_cons_zero, List.setIfInBounds_toArray, List.set_cons_zero, List.set_cons_succ]
  refine WD_take (i := 4) (oi := _) (v := ?_) rfl (by kernel_rfl) (fun _ _ _ h => h) (Or.inl ⟨by rfl, ?_⟩) (by assumption) ?_
  rotate_left
  · (intro W hS; (try dsimp only at hS); have q0 := (hS.cell (p := ⟨w.heap.size, 0, none⟩) (World.block_lt_of_cell? _ _ k0)).trans k0; have q1 := (hS.cell (p := ⟨w.heap.size, 1, none⟩) (World.block_lt_of_cell? _ _ k1)).trans k1; have q2 := (hS.cell (p := ⟨w.heap.size, 2, none⟩) (World.block_lt_of_cell? _ _ k2)).trans k2; clear hS; go_simp; with_reducible rfl)
  try simp only [Act.put, List.getElem_toArray, List.getElem_cons_succ, List.getElem_cons_zero, List.setIfInBounds_toArray, List.set_cons_zero, List.set_cons_succ]
  refine WD_free (i := 5) (oi := _) (v := ?_) rfl (by kernel_rfl) (fun _ _ _ h => h) (Or.inl ⟨by rfl, ?_⟩) ?_
  rotate_left
  · (intro W hS; (try dsimp only at hS); clear hS; go_simp; with_reducible rfl)
  try simp only [Act.put, List.getElem_toArray, List.getElem_cons_succ, List.getElem_cons_zero, List.setIfInBounds_toArray, List.set_cons_zero, List.set_cons_succ]
  refine WD_take (i := 7) (oi := _) (v := ?_) rfl (by kernel_rfl) (fun _ _ _ h => h) (Or.inl ⟨by rfl, ?_⟩) (by assumption) ?_
  rotate_left
  · (intro W hS; (try dsimp only at hS); have q0 := (hS.cell (p := ⟨w.heap.size, 0, none⟩) (World.block_lt_of_cell? _ _ k0)).trans k0; have q1 := (hS.cell (p := ⟨w.heap.size, 1, none⟩) (World.block_lt_of_cell? _ _ k1)).trans k1; have q2 := (hS.cell (p := ⟨w.heap.size, 2, none⟩) (World.block_lt_of_cell? _ _ k2)).trans k2; clear hS; go_simp; with_reducible rfl)
  try simp only [Act.put, List.getElem_toArray, List.getElem_cons_succ, List.getElem_cons_zero, List.setIfInBounds_toArray, List.set_cons_zero, List.set_cons_succ]
  refine WD_free (i := 8) (oi := _) (v := ?_) rfl (by kernel_rfl) (fun _ _ _ h => h) (Or.inl ⟨by rfl, ?_⟩) ?_
  rotate_left
  · (intro W hS; (try dsimp only at hS); clear hS; go_simp; with_reducible rfl)
  try simp only [Act.put, List.getElem_toArray, List.getElem_cons_succ, List.getElem_cons_zero, List.setIfInBounds_toArray, List.set_cons_zero, List.set_cons_succ]
  refine WD_free (i := 11) (oi := _) (v := ?_) rfl (by kernel_rfl) (fun _ _ _ h => h) (Or.inl ⟨by rfl, ?_⟩) ?_
  rotate_left
  · (intro W hS; (try dsimp only at hS); clear hS; go_simp; with_reducible rfl)
  try simp only [Act.put, List.getElem_toArray, List.getElem_cons_succ, List.getElem_cons_zero, List.setIfInBounds_toArray, List.set_cons_zero, List.set_cons_succ]
  refine WD_take (i := 12) (oi := _) (v := ?_) rfl (by kernel_rfl) (fun _ _ _ h => h) (Or.inl ⟨by rfl, ?_⟩) (by assumption) ?_
  rotate_left
  · (intro W hS; (try dsimp only at hS); have q2 := (hS.cell (p := ⟨w.heap.size, 2, none⟩) (World.block_lt_of_cell? _ _ k2)).trans k2; clear hS; go_simp; with_reducible rfl)
  try simp only [Act.put, List.getElem_toArray, List.getElem_cons_succ, List.getElem_cons_zero, List.setIfInBounds_toArray, List.set_cons_zero, List.set_cons_succ]
  refine WD_step (i := 6) (o := _) rfl (by kernel_rfl) (fun K hK => ?_)
  go_simp
  refine (HPA.out _).mono ?_
  rintro e w5 ⟨⟨a5, c5, rfl, hr5⟩, hb5⟩
  have HR5 := Lib.hid hr5
  clear hr5
  go_wp2_with fail
  replace hHeld := below_two hHeld hb5
  refine hK.out _ _ (fun _ _ => hHeld) ?_
  clear hK K
  try simp only [Act.put, List.getElem_toArray, List.getElem_cons_succ, List.getElem_cons_zero, List.setIfInBounds_toArray, List.set_cons_zero, List.set_cons_succ]
  refine WD_step (i := 9) (o := _) rfl (by kernel_rfl) (fun K hK => ?_)
  go_simp
  refine (HPB.out _).mono ?_
  rintro e w6 ⟨⟨a6, c6, rfl, hr6⟩, hb6⟩
  have HR6 := Lib.hid hr6
  have HR56 := Lib.hid (HR5.out.below hb6 (Nat.le_refl _))
  clear hr6
  go_wp2_with fail
  replace hHeld := below_two hHeld hb6
  refine hK.out _ _ (fun _ _ => hHeld) ?_
  clear hK K
  try simp only [Act.put, List.getElem_toArray, List.getElem_cons_succ, List.getElem_cons_zero, List.setIfInBounds_toArray, List.set_cons_zero, List.set_cons_succ]
  refine WD_step (i := 10) (o := _) rfl (by kernel_rfl) (fun K hK => ?_)
  go_simp
  refine (HT.out _ _ _ _ _ HR56.out HR6.out).mono ?_
  rintro e w7 ⟨⟨a7, c7, rfl, hr7⟩, hb7⟩
  have HR7 := Lib.hid hr7
  clear hr7
  go_wp2_with fail
  replace hHeld := below_two hHeld hb7
  refine hK.out _ _ (fun _ _ => hHeld) ?_
  clear hK K
  try simp only [Act.put, List.getElem_toArray, List.getElem_cons_succ, List.getElem_cons_zero, List.setIfInBounds_toArray, List.set_cons_zero, List.set_cons_succ]
  refine WD_step (i := 13) (o := _) rfl (by kernel_rfl) (fun K hK => ?_)
  go_simp
  refine (HO.out _ _ _ HR7.out (HRF.out.below hHeld (Nat.le_refl _))).mono ?_
  rintro e w8 ⟨⟨v8, a8, c8, rfl, hr8⟩, hb8⟩
  have HR8 := Lib.hid hr8
  clear hr8
  go_wp2_with fail
  replace hHeld := below_two hHeld hb8
  refine hK.out _ _ (fun _ _ => hHeld) ?_
  clear hK K
  try simp only [Act.put, List.getElem_toArray, List.getElem_cons_succ, List.getElem_cons_zero, List.setIfInBounds_toArray, List.set_cons_zero, List.set_cons_succ]
  refine WD_free (i := 14) (oi := _) (v := ?_) rfl (by kernel_rfl) (fun _ _ _ h => h) (Or.inl ⟨by rfl, ?_⟩) ?_
  rotate_left
  · (intro W hS; (try dsimp only at hS); clear hS; go_simp; with_reducible rfl)
  try simp only [Act.put, List.getElem_toArray, List.getElem_cons_succ, List.getElem_cons_zero, List.setIfInBounds_toArray, List.set_cons_zero, List.set_cons_succ]
  refine WD_free (i := 15) (oi := _) (v := ?_) rfl (by kernel_rfl) (fun _ _ _ h => h) (Or.inl ⟨by rfl, ?_⟩) ?_
  rotate_left
  · (intro W hS; (try dsimp only at hS); clear hS; go_simp; with_reducible rfl)
  try simp only [Act.put, List.getElem_toArray, List.getElem_cons_succ, List.getElem_cons_zero, List.setIfInBounds_toArray, List.set_cons_zero, List.set_cons_succ]
  refine WD_free (i := 16) (oi := _) (v := ?_) rfl (by kernel_rfl) (fun _ _ _ h => h) (Or.inl ⟨by rfl, ?_⟩) ?_
  rotate_left
  · (intro W hS; (try dsimp only at hS); clear hS; go_simp; with_reducible rfl)
  try simp only [Act.put, List.getElem_toArray, List.getElem_cons_succ, List.getElem_cons_zero, List.setIfInBounds_toArray, List.set_cons_zero, List.set_cons_succ]
  refine WD_free (i := 17) (oi := _) (v := ?_) rfl (by kernel_rfl) (fun _ _ _ h => h) (Or.inl ⟨by rfl, ?_⟩) ?_
  rotate_left
  · (intro W hS; (try dsimp only at hS); clear hS; go_simp; with_reducible rfl)
  try simp only [Act.put, List.getElem_toArray, List.getElem_cons_succ, List.getElem_cons_zero, List.setIfInBounds_toArray, List.set_cons_zero, List.set_cons_succ]
  refine WD_free (i := 18) (oi := _) (v := ?_) rfl (by kernel_rfl) (fun _ _ _ h => h) (Or.inl ⟨by rfl, ?_⟩) ?_
  rotate_left
  · (intro W hS; (try dsimp only at hS); clear hS; go_simp; with_reducible rfl)
  try simp only [Act.put, List.getElem_toArray, List.getElem_cons_succ, List.getElem_cons_zero, List.setIfInBounds_toArray, List.set_cons_zero, List.set_cons_succ]
  refine WD_done (by kernel_rfl) ?_ _
  have kk0 := kept hHeld k0 (World.block_lt_of_cell? _ _ k0)
  have kk1 := kept hHeld k1 (World.block_lt_of_cell? _ _ k1)
  have kk2 := kept hHeld k2 (World.block_lt_of_cell? _ _ k2)
  have hbz := below_two hbw hHeld
  clear hHeld k0 k1 k2
  go_wp2_with fail
  refine (HNU.out _ _ _ HR8.out).mono ?_
  rintro e w9 ⟨rfl, hb9⟩
  go_wp2
  go_ret
  exact ⟨by rw [← HV.out]; rfl, below_two hbz hb9⟩
end Go.Proofs.Ytkkefbjmdbjbhaa

/- Merged: XPrt9, XPrt10, XRep, XPrt11, XPrt12. -/
import Derived.Test.YtfgmnlphejpcaaaMgB
import Derived.Test.YtfgmnlphejpcaaaFew
import Derived.Test.YtfgmnlphejpcaaaShM
import Derived.Test.YtfgmnlphejpcaaaHold
import Derived.Laws.CopyOwn
import Derived.Test.YtfgmnlphejpcaaaPlus
import Derived.Test.YtfgmnlphejpcaaaOwnG
import Derived.Test.YtfgmnlphejpcaaaAppS
/- (*parts.crowd).share. -/
namespace Go.Proofs.Ytfgmnlphejpcaaa
open Go.RowKit
set_option linter.unusedVariables false
set_option linter.unusedSimpArgs false
/-- every old block but one is as it was -/
structure Butc (cb : Nat) (w w' : World) : Prop where
  bel : Below cb w w'
  size : w.heap.size ≤ w'.heap.size
  block : ∀ k, k < w.heap.size → k ≠ cb → w'.heap[k]? = w.heap[k]?
theorem Butc.refl (cb : Nat) (w : World) : Butc cb w w := ⟨Below.refl _ _, Nat.le_refl _, fun _ _ _ => rfl⟩
theorem Butc.trans {cb : Nat} {a b c : World} (h : Butc cb a b) (k : Butc cb b c) : Butc cb a c :=
  ⟨h.bel.trans k.bel, Nat.le_trans h.size k.size, fun j hj hn => (k.block j (Nat.lt_of_lt_of_le hj h.size) hn).trans (h.block j hj hn)⟩
theorem Butc.below {cb : Nat} {a b : World} (h : Below a.heap.size a b) (hcb : cb < a.heap.size) : Butc cb a b :=
  ⟨h.mono (Nat.le_of_lt hcb), h.size, fun j hj _ => h.block j hj⟩
theorem Butc.set {cb : Nat} {a b : World} (h : Butc cb a b) (j : Nat) (v : Value) : Butc cb a (b.setCell ⟨cb, j, none⟩ v) :=
  h.trans ⟨(Below.refl _ _).setCell (p := ⟨cb, j, none⟩) (Nat.le_refl _) v, by simp [World.setCell], fun k _ hn => Below.heap_setCell _ _ _ _ hn⟩
theorem own_but {cb : Nat} {W W' : World} {base : Nat} {e : TypeId} {size : Nat} {v : Value} {k : Nat} {xs : List Value} (h : W.ownsRow base e size v k xs) (hb : Butc cb W W') (hcb : cb < base) : W'.ownsRow base e size v k xs := by
  rcases h with ⟨h0, h | ⟨g, cap, cur, h1, h2, h3, h4⟩⟩
  · exact ⟨h0, .inl h⟩
  · exact ⟨h0, .inr ⟨g, cap, cur, h1, h2, (hb.block g (Array.getElem?_eq_some_iff.1 h3).1 (by omega)).trans h3, h4⟩⟩
/-- a crowd behind an address -/
structure Crowd (W : World) (cb : Nat) (p : Int) (t n : Nat) (w0 : World) : Prop where
  c0 : W.cell? ⟨cb, 0, none⟩ = some (.int .i64 p)
  c1 : W.cell? ⟨cb, 1, none⟩ = some (.int .i64 t)
  c2 : W.cell? ⟨cb, 2, none⟩ = some (.int .i64 n)
  c3 : ∃ a c R, W.cell? ⟨cb, 3, none⟩ = some (.slice a (R : List Int).length c) ∧ RowL w0 a c R ∧ ∀ x ∈ R, 0 ≤ x ∧ x < p
  fr : W.frozen? ⟨cb, 3, none⟩ = false
  old : Below w0.heap.size w0 W
  le : w0.heap.size ≤ cb
theorem Crowd.lt {W : World} {cb : Nat} {p : Int} {t n : Nat} {w0 : World} (h : Crowd W cb p t n w0) : cb < W.heap.size := World.block_lt_of_cell? _ _ h.c0
theorem Crowd.below {W W' : World} {cb : Nat} {p : Int} {t n : Nat} {w0 : World} (h : Crowd W cb p t n w0) (hb : Below W.heap.size W W') : Crowd W' cb p t n w0 := by
  obtain ⟨a, c, R, h1, h2⟩ := h.c3
  exact ⟨kept hb h.c0 h.lt, kept hb h.c1 h.lt, kept hb h.c2 h.lt, ⟨a, c, R, kept hb h1 h.lt, h2⟩, (hb.frozen (p := ⟨cb, 3, none⟩) h.lt).trans h.fr, h.old.trans (hb.mono h.old.size), h.le⟩
/-- the numbers that a value is shared with -/
def moreL (t : Nat) (R : List Int) : List Int := R.take t ++ List.replicate (t - min t R.length) 0
theorem moreL_len (t : Nat) (R : List Int) : (moreL t R).length = t := by simp [moreL]; omega
theorem moreL_rng {p : Int} (hp : 1 ≤ p) {t : Nat} {R : List Int} (h : ∀ x ∈ R, 0 ≤ x ∧ x < p) : ∀ x ∈ moreL t R, 0 ≤ x ∧ x < p := fun x hx => by
  rcases List.mem_append.1 hx with hx | hx
  · exact h x (List.mem_of_mem_take hx)
  · have := List.eq_of_mem_replicate hx; omega
theorem moreL_splice (t : Nat) (R : List Int) : splice (List.replicate t (Value.int .i64 0)) 0 (inV (R.take t)) = inV (moreL t R) := by
  simp [splice, inV, moreL]
theorem more_src {w0 w1 : World} {a : Option Addr} {c t : Nat} {R : List Int} {ad : Option Addr} (h : RowL w0 a c R) (hb : Below w0.heap.size w0 w1) (h0 : 0 < (inV (R.take t)).length) :
    ad = ad ∧ ∃ ad, a = some ad ∧ ∀ j v, (inV (R.take t))[j]? = some v → w1.cell? (ad.add j) = some v := by
  refine ⟨rfl, ?_⟩
  rcases a with _ | ad
  · have := (h.1 rfl).1; subst this; simp [inV] at h0
  · exact ⟨ad, rfl, fun j u hu => ((h.take t).below hb (Nat.le_refl _)).2.1 ad rfl j u hu⟩
theorem RowL.drop {W : World} {a : Option Addr} {c : Nat} {xs : List Int} (h : RowL W a c xs) (k : Nat) : RowL W (if c = k then a else Option.map (fun x => x.add k) a) (c - k) (xs.drop k) := by
  have h3 := h.2.2
  by_cases hck : c = k
  · rw [if_pos hck]
    have e : xs.drop k = [] := List.drop_eq_nil_of_le (by omega)
    rw [e]
    exact ⟨fun _ => ⟨rfl, by omega⟩, fun ad _ j u hu => by simp [inV] at hu, by simp⟩
  · rw [if_neg hck]
    refine ⟨fun e => ?_, fun ad e j u hu => ?_, by rw [List.length_drop]; omega⟩
    · have ha : a = none := by simpa using e
      obtain ⟨h1, h2⟩ := h.1 ha
      rw [h1]; exact ⟨by simp, by omega⟩
    · rcases a with _ | ⟨b, o, s⟩
      · cases e
      · have e' : ad = (⟨b, o, s⟩ : Addr).add k := by simpa using e.symm
        subst e'
        rw [Addr.add_add]
        refine h.2.1 _ rfl (k + j) u ?_
        simpa [inV] using hu
def shP (p x : Int) (t : Nat) (R : List Int) : Int → Int := fun z => valL p (x :: moreL t R) z
theorem shP_PF {p x : Int} {t : Nat} {R : List Int} (hp : 1 ≤ p) (hx : 0 ≤ x ∧ x < p) (h : ∀ x ∈ R, 0 ≤ x ∧ x < p) : PF p (t + 1) (shP p x t R) := by
  have := PF.of (p := p) (C := x :: moreL t R) (fun c hc => by
    rcases List.mem_cons.1 hc with rfl | hc
    · exact hx
    · exact moreL_rng hp h c hc)
  rw [List.length_cons, moreL_len] at this
  exact this
theorem shP_zero {p x : Int} {t : Nat} {R : List Int} (hx : 0 ≤ x ∧ x < p) : shP p x t R 0 = x := by
  show valL p (x :: moreL t R) 0 = x
  rw [valL_ev]
  show (x + 0 * ev (moreL t R) 0) % p = x
  rw [Int.zero_mul, Int.add_zero, Int.emod_eq_of_lt hx.1 hx.2]
theorem shP_mod {p x z : Int} {t : Nat} {R : List Int} : shP p x t R z % p = valL p (x :: moreL t R) z := by
  show valL p (x :: moreL t R) z % p = _
  rw [valL_ev, Int.emod_emod]
theorem shV_step (f : Int → Int) (p : Int) (n : Nat) : shV f p (n + 1) = shV f p n ++ [f ((n : Int) + 1) % p] := by simp [shV, List.range_succ]
theorem more_good {p x : Int} {t n : Nat} {R : List Int} (hpr : primeE p = 0) (hp : 1 ≤ p) (ht : t ≤ 4) (hnp : (n : Int) < p) (hx : 0 ≤ x ∧ x < p) (h : ∀ x ∈ R, 0 ≤ x ∧ x < p) : GoodS p x (moreL t R) n :=
  ⟨hpr, by rw [moreL_len]; omega, List.any_eq_false.2 fun y hy => by
    have : 0 ≤ y ∧ y < p := by
      rcases List.mem_cons.1 hy with rfl | hy
      · exact hx
      · exact moreL_rng hp h y hy
    simp [badB]; omega, by omega, hnp⟩
set_option maxRecDepth 20000 in
set_option maxHeartbeats 6400000 in
theorem crowd_share (p x : Int) (t n cb : Nat) (w0 w : World) (hC : Crowd w cb p t n w0) (hpr : primeE p = 0) (ht : t ≤ 4) (hn : n = 2 * t + 1) (hnp : (n : Int) < p) (hx : 0 ≤ x ∧ x < p) :
    Calls Try.prog 60 #[.pointer (some ⟨cb, 0, none⟩), .int .i64 x] w fun e w' => (∃ (f : Int → Int) (v : Value), e = .returned v ∧ PF p (t + 1) f ∧ f 0 % p = x ∧ w'.ownsRow w.heap.size 2 1 v n (inV (shV f p n))) ∧ Crowd w' cb p t n w0 ∧ Butc cb w w' := by
  have hp := primeE_zero hpr
  have p2 := hp.2.1
  have p1 : 1 ≤ p := by have := hp.1; omega
  have hcb := hC.lt
  have HCR := Lib.hid hC
  have hcbl := hC.le
  have f3 := hC.fr
  have c1 := hC.c1
  obtain ⟨a, c, R, c3, hrow, hrng⟩ := hC.c3
  have HRW := Lib.hid hrow
  have HX := Lib.hid hx
  have HPF : Hid (PF p (t + 1) (shP p x t R)) := Lib.hid (shP_PF p1 hx hrng)
  have HZ : Hid (shP p x t R 0 % p = x) := Lib.hid (by rw [shP_zero hx, Int.emod_eq_of_lt hx.1 hx.2])
  have HGS := Lib.hid (more_good (t := t) hpr p1 ht hnp hx hrng)
  have HRng := Lib.hid hrng
  have hRc := hrow.2.2
  obtain ⟨RL, hRL⟩ : ∃ n, R.length = n := ⟨_, rfl⟩
  rw [hRL] at c3 hRc
  have HRL := Lib.hid hRL
  obtain ⟨kk, hkk⟩ : ∃ k, min t RL = k := ⟨_, rfl⟩
  have hk1 : kk ≤ RL := by omega
  have HKK := Lib.hid hkk
  obtain ⟨i0, hi, hz0, hz1, hz2⟩ := info_parts long_info
  have hu : Try.prog.underlying 22 = some (.slice 2) := by kernel_rfl
  have hn9 : n ≤ 9 := by omega
  have hn1 : 1 ≤ n := by omega
  clear hC hrow hrng hRL hkk hpr hp hx hn
  go_enter Try.func60, Try.ntmps60
  go_wp2_with (first
      | (at_make; refine wpList_make_full _ rfl _ _ 22 rfl w.heap.size 2 i0 (.int .i64 0) 1 hu hi hz0 hz1 .i64 .i64 _ _ t rfl rfl rfl rfl (by rw [hz2]; omega) (by unfold maxLen; omega) (Nat.le_refl _) ?_
         intro w1 hown1 hg1
         rw [Nat.mul_one, show (Value.int IntKind.i64 0).cells = #[Value.int .i64 0] from rfl, made_one] at hown1
         have HG := Lib.hid (own_full hown1)
         have HB0 := Lib.hid ((Below.refl w.heap.size w).grown hg1 (Nat.le_refl _) (fun j hj => by cases hj))
         have HO1 := Lib.hid (HCR.out.old.trans (HB0.out.mono HCR.out.old.size))
         clear hown1 hg1))
  refine wp_region_D (S := (fun W : World => Below w.heap.size w W)) (fun j => j != 14) (by kernel_rfl) HB0.out.drew (fun hHeld => ?_)
  simp only [List.size_toArray, List.length_cons, List.length_nil, Nat.reduceAdd, Array.replicate_succ, Array.replicate_zero, List.push_toArray, List.append_toArray, List.nil_append, List.cons_append]
  refine WD_free (i := 0) (oi := _) (v := ?_) rfl (by kernel_rfl) (fun _ _ _ h => h) (Or.inl ⟨by rfl, ?_⟩) ?_
  rotate_left
  · (intro W hS; (try dsimp only at hS); clear hS; go_simp; with_reducible rfl)
  try simp only [Act.put, List.getElem_toArray, List.getElem_cons_succ, List.getElem_cons_zero, List.setIfInBounds_toArray, List.set_cons_zero, List.set_cons_succ]
  refine WD_free (i := 1) (oi := _) (v := ?_) rfl (by kernel_rfl) (fun _ _ _ h => h) (Or.inl ⟨by rfl, ?_⟩) ?_
  rotate_left
  · (intro W hS; (try dsimp only at hS); clear hS; go_simp; with_reducible rfl)
  try simp only [Act.put, List.getElem_toArray, List.getElem_cons_succ, List.getElem_cons_zero, List.setIfInBounds_toArray, List.set_cons_zero, List.set_cons_succ]
  refine WD_free (i := 2) (oi := _) (v := ?_) rfl (by kernel_rfl) (fun _ _ _ h => h) (Or.inl ⟨by rfl, ?_⟩) ?_
  rotate_left
  · (intro W hS; (try dsimp only at hS); clear hS; go_simp; with_reducible rfl)
  try simp only [Act.put, List.getElem_toArray, List.getElem_cons_succ, List.getElem_cons_zero, List.setIfInBounds_toArray, List.set_cons_zero, List.set_cons_succ]
  refine WD_free (i := 3) (oi := _) (v := ?_) rfl (by kernel_rfl) (fun _ _ _ h => h) (Or.inl ⟨by rfl, ?_⟩) ?_
  rotate_left
  · (intro W hS; (try dsimp only at hS); clear hS; go_simp; with_reducible rfl)
  try simp only [Act.put, List.getElem_toArray, List.getElem_cons_succ, List.getElem_cons_zero, List.setIfInBounds_toArray, List.set_cons_zero, List.set_cons_succ]
  refine WD_take (i := 4) (oi := _) (v := ?_) rfl (by kernel_rfl) (fun _ _ _ h => h) (Or.inl ⟨by rfl, ?_⟩) (by assumption) ?_
  rotate_left
  · (intro W hS; (try dsimp only at hS); have kk := (hS.cell (p := ⟨cb, 3, none⟩) hcb).trans c3; clear hS; go_simp; with_reducible rfl)
  try simp only [Act.put, List.getElem_toArray, List.getElem_cons_succ, List.getElem_cons_zero, List.setIfInBounds_toArray, List.set_cons_zero, List.set_cons_succ]
  refine WD_free (i := 5) (oi := _) (v := ?_) rfl (by kernel_rfl) (fun _ _ _ h => h) (Or.inl ⟨by rfl, ?_⟩) ?_
  rotate_left
  · (intro W hS; (try dsimp only at hS); clear hS; go_simp; with_reducible rfl)
  try simp only [Act.put, List.getElem_toArray, List.getElem_cons_succ, List.getElem_cons_zero, List.setIfInBounds_toArray, List.set_cons_zero, List.set_cons_succ]
  refine WD_free (i := 6) (oi := _) (v := ?_) rfl (by kernel_rfl) (fun _ _ _ h => h) (Or.inl ⟨by rfl, ?_⟩) ?_
  rotate_left
  · (intro W hS; (try dsimp only at hS); clear hS; go_simp; with_reducible rfl)
  try simp only [Act.put, List.getElem_toArray, List.getElem_cons_succ, List.getElem_cons_zero, List.setIfInBounds_toArray, List.set_cons_zero, List.set_cons_succ]
  refine WD_free (i := 7) (oi := _) (v := ?_) rfl (by kernel_rfl) (fun _ _ _ h => h) (Or.inl ⟨by rfl, ?_⟩) ?_
  rotate_left
  · (intro W hS; (try dsimp only at hS); clear hS; go_simp; with_reducible rfl)
  try simp only [Act.put, List.getElem_toArray, List.getElem_cons_succ, List.getElem_cons_zero, List.setIfInBounds_toArray, List.set_cons_zero, List.set_cons_succ]
  refine WD_free (i := 8) (oi := _) (v := ?_) rfl (by kernel_rfl) (fun _ _ _ h => h) (Or.inl ⟨by rfl, ?_⟩) ?_
  rotate_left
  · (intro W hS; (try dsimp only at hS); clear hS; go_simp; with_reducible rfl)
  try simp only [Act.put, List.getElem_toArray, List.getElem_cons_succ, List.getElem_cons_zero, List.setIfInBounds_toArray, List.set_cons_zero, List.set_cons_succ]
  refine WD_take (i := 9) (oi := _) (v := ?_) rfl (by kernel_rfl) (fun _ _ _ h => h) (Or.inl ⟨by rfl, ?_⟩) (by assumption) ?_
  rotate_left
  · (intro W hS; (try dsimp only at hS); have kk := (hS.cell (p := ⟨cb, 3, none⟩) hcb).trans c3; clear hS; go_simp; with_reducible rfl)
  try simp only [Act.put, List.getElem_toArray, List.getElem_cons_succ, List.getElem_cons_zero, List.setIfInBounds_toArray, List.set_cons_zero, List.set_cons_succ]
  refine WD_step (i := 10) (o := _) rfl (by kernel_rfl) (fun K hK => ?_)
  refine step_copy_splice rfl (.tmp 21) (.tmp 25) 22 22 rfl 2 hu (by rw [hi]; simp [hz1]) (some ⟨w.heap.size, 0, none⟩) a t t RL c rfl rfl w.heap.size 0 (List.replicate t (.int .i64 0)) 2 HG.out (inV (R.take t)) ?cn ?cp ?cf (inV_one _) w.heap.size w hHeld (Nat.le_refl _) ?_
  case cn => rw [inV_len, List.length_take, HRL.out]; exact Nat.min_comm _ _
  case cf => rw [inV_len, List.length_take, List.length_replicate]; omega
  case cp => exact fun h0 => more_src HRW.out HO1.out.drew h0
  intro w4 hg4 hb4
  have hkl : (inV (R.take t)).length = kk := by rw [inV_len, List.length_take, HRL.out]; exact HKK.out
  rw [hkl]
  have c3' := (hb4.cell (p := ⟨cb, 3, none⟩) hcb).trans c3
  have f3' := (hb4.frozen (p := ⟨cb, 3, none⟩) hcb).trans f3
  replace hHeld := hb4
  refine hK.out _ _ (fun _ _ => hHeld) ?_
  clear hK K
  try simp only [Act.put, List.getElem_toArray, List.getElem_cons_succ, List.getElem_cons_zero, List.setIfInBounds_toArray, List.set_cons_zero, List.set_cons_succ]
  refine WD_free (i := 11) (oi := _) (v := ?_) rfl (by kernel_rfl) (fun _ _ _ h => h) (Or.inl ⟨by rfl, ?_⟩) ?_
  rotate_left
  · (intro W hS; (try dsimp only at hS); clear hS; go_simp; with_reducible rfl)
  try simp only [Act.put, List.getElem_toArray, List.getElem_cons_succ, List.getElem_cons_zero, List.setIfInBounds_toArray, List.set_cons_zero, List.set_cons_succ]
  refine WD_free (i := 12) (oi := _) (v := ?_) rfl (by kernel_rfl) (fun _ _ _ h => h) (Or.inl ⟨by rfl, ?_⟩) ?_
  rotate_left
  · (intro W hS; (try dsimp only at hS); clear hS; go_simp; with_reducible rfl)
  try simp only [Act.put, List.getElem_toArray, List.getElem_cons_succ, List.getElem_cons_zero, List.setIfInBounds_toArray, List.set_cons_zero, List.set_cons_succ]
  refine WD_free (i := 13) (oi := _) (v := ?_) rfl (by kernel_rfl) (fun _ _ _ h => h) (Or.inl ⟨by rfl, ?_⟩) ?_
  rotate_left
  · (intro W hS; (try dsimp only at hS); clear hS; go_simp; with_reducible rfl)
  try simp only [Act.put, List.getElem_toArray, List.getElem_cons_succ, List.getElem_cons_zero, List.setIfInBounds_toArray, List.set_cons_zero, List.set_cons_succ]
  refine WD_step (i := 14) (o := _) rfl (by kernel_rfl) (fun K hK => ?_)
  go_simp
  refine hK.out _ _ (fun h => by cases h) ?_
  clear hK K
  try simp only [Act.put, List.getElem_toArray, List.getElem_cons_succ, List.getElem_cons_zero, List.setIfInBounds_toArray, List.set_cons_zero, List.set_cons_succ]
  refine WD_done (by kernel_rfl) ?_ _

  have HRd := Lib.hid (HRW.out.drop kk)
  obtain ⟨a2, ha2⟩ : ∃ a2, (if c = kk then a else Option.map (fun x => x.add kk) a) = a2 := ⟨_, rfl⟩
  rw [ha2] at HRd ⊢
  clear ha2
  obtain ⟨W3, hW3⟩ : ∃ W, w4.setCell ⟨cb, 3, none⟩ (.slice a2 (RL - kk) (c - kk)) = W := ⟨_, rfl⟩
  have hB3 : Butc cb w W3 := hW3 ▸ ((Butc.below hHeld hcb).set 3 _)
  have hC4 : Crowd w4 cb p t n w0 := HCR.out.below hHeld
  have hC3 : Crowd W3 cb p t n w0 := by
    have e0 : ∀ j : Nat, j ≠ 3 → W3.cell? ⟨cb, j, none⟩ = w4.cell? ⟨cb, j, none⟩ := fun j hj => by
      have hne : (⟨cb, 3, none⟩ : Addr) ≠ ⟨cb, j, none⟩ := fun e => hj (by injection e with _ e2 _; exact e2.symm)
      rw [← hW3, World.cell?_setCell_other (a := (⟨cb, 3, none⟩ : Addr)) (b := (⟨cb, j, none⟩ : Addr)) (h := hne)]
    have h3 : W3.cell? ⟨cb, 3, none⟩ = some (.slice a2 (RL - kk) (c - kk)) := by
      rw [← hW3]
      exact World.cell?_setCell_same' _ _ _ (by simp [c3'])
    refine ⟨(e0 0 (by omega)).trans hC4.c0, (e0 1 (by omega)).trans hC4.c1, (e0 2 (by omega)).trans hC4.c2, ⟨_, _, R.drop kk, ?_, HRd.out, fun y hy => HRng.out y (List.mem_of_mem_drop hy)⟩, ?_, ?_, hcbl⟩
    · rw [h3, List.length_drop, HRL.out]
    · rw [← hW3, World.frozen?_setCell]; exact f3'
    · exact hW3 ▸ hC4.old.setCell (p := ⟨cb, 3, none⟩) hcbl _
  have hgm : W3.heap[w.heap.size]? = some (.cells (inV (moreL t R)).toArray 2 (0, 0)) := by
    rw [← hW3, Below.heap_setCell _ _ _ _ (show w.heap.size ≠ cb by omega), hg4.out, moreL_splice]
  have HRm := Lib.hid (row_ownL (own_of (base := w.heap.size) (k := t) (Nat.le_refl _) (by rw [inV_len, moreL_len]) hgm))
  have HSp := Lib.hid fun W (h : RowL W (some ⟨w.heap.size, 0, none⟩) t (moreL t R)) => share_Split p x n (some ⟨w.heap.size, 0, none⟩) t (moreL t R) W HGS.out h (moreL_len t R)
  have d0 := hC3.c0
  have d2 := hC3.c2
  have zcb := hC3.lt
  have HB3 := Lib.hid hB3
  have HC3 := Lib.hid hC3
  have hwl : w.heap.size ≤ W3.heap.size := hB3.size
  rw [hW3]
  clear hHeld hC4 hC3 hgm hg4 c3' f3' f3 c1 c3 hkl hW3 hB3 HG HB0 HO1 hb4
  go_wp2_with fail
  refine wp_region_D (S := (fun W : World => Below W3.heap.size W3 W)) (fun _ => true) (by kernel_rfl) (Below.refl _ _).drew (fun hHeld => ?_)
  simp only [List.size_toArray, List.length_cons, List.length_nil, Nat.reduceAdd, Array.replicate_succ, Array.replicate_zero, List.push_toArray, List.append_toArray, List.nil_append, List.cons_append]
  refine WD_free (i := 0) (oi := _) (v := ?_) rfl (by kernel_rfl) (fun _ _ _ h => h) (Or.inl ⟨by rfl, ?_⟩) ?_
  rotate_left
  · (intro W hS; (try dsimp only at hS); clear hS; go_simp; with_reducible rfl)
  try simp only [Act.put, List.getElem_toArray, List.getElem_cons_succ, List.getElem_cons_zero, List.setIfInBounds_toArray, List.set_cons_zero, List.set_cons_succ]
  refine WD_free (i := 1) (oi := _) (v := ?_) rfl (by kernel_rfl) (fun _ _ _ h => h) (Or.inl ⟨by rfl, ?_⟩) ?_
  rotate_left
  · (intro W hS; (try dsimp only at hS); clear hS; go_simp; with_reducible rfl)
  try simp only [Act.put, List.getElem_toArray, List.getElem_cons_succ, List.getElem_cons_zero, List.setIfInBounds_toArray, List.set_cons_zero, List.set_cons_succ]
  refine WD_free (i := 2) (oi := _) (v := ?_) rfl (by kernel_rfl) (fun _ _ _ h => h) (Or.inl ⟨by rfl, ?_⟩) ?_
  rotate_left
  · (intro W hS; (try dsimp only at hS); clear hS; go_simp; with_reducible rfl)
  try simp only [Act.put, List.getElem_toArray, List.getElem_cons_succ, List.getElem_cons_zero, List.setIfInBounds_toArray, List.set_cons_zero, List.set_cons_succ]
  refine WD_take (i := 3) (oi := _) (v := ?_) rfl (by kernel_rfl) (fun _ _ _ h => h) (Or.inl ⟨by rfl, ?_⟩) (by assumption) ?_
  rotate_left
  · (intro W hS; (try dsimp only at hS); have kk := (hS.cell (p := ⟨cb, 0, none⟩) zcb).trans d0; clear hS; go_simp; with_reducible rfl)
  try simp only [Act.put, List.getElem_toArray, List.getElem_cons_succ, List.getElem_cons_zero, List.setIfInBounds_toArray, List.set_cons_zero, List.set_cons_succ]
  refine WD_free (i := 4) (oi := _) (v := ?_) rfl (by kernel_rfl) (fun _ _ _ h => h) (Or.inl ⟨by rfl, ?_⟩) ?_
  rotate_left
  · (intro W hS; (try dsimp only at hS); clear hS; go_simp; with_reducible rfl)
  try simp only [Act.put, List.getElem_toArray, List.getElem_cons_succ, List.getElem_cons_zero, List.setIfInBounds_toArray, List.set_cons_zero, List.set_cons_succ]
  refine WD_free (i := 5) (oi := _) (v := ?_) rfl (by kernel_rfl) (fun _ _ _ h => h) (Or.inl ⟨by rfl, ?_⟩) ?_
  rotate_left
  · (intro W hS; (try dsimp only at hS); clear hS; go_simp; with_reducible rfl)
  try simp only [Act.put, List.getElem_toArray, List.getElem_cons_succ, List.getElem_cons_zero, List.setIfInBounds_toArray, List.set_cons_zero, List.set_cons_succ]
  refine WD_free (i := 6) (oi := _) (v := ?_) rfl (by kernel_rfl) (fun _ _ _ h => h) (Or.inl ⟨by rfl, ?_⟩) ?_
  rotate_left
  · (intro W hS; (try dsimp only at hS); clear hS; go_simp; with_reducible rfl)
  try simp only [Act.put, List.getElem_toArray, List.getElem_cons_succ, List.getElem_cons_zero, List.setIfInBounds_toArray, List.set_cons_zero, List.set_cons_succ]
  refine WD_free (i := 7) (oi := _) (v := ?_) rfl (by kernel_rfl) (fun _ _ _ h => h) (Or.inl ⟨by rfl, ?_⟩) ?_
  rotate_left
  · (intro W hS; (try dsimp only at hS); clear hS; go_simp; with_reducible rfl)
  try simp only [Act.put, List.getElem_toArray, List.getElem_cons_succ, List.getElem_cons_zero, List.setIfInBounds_toArray, List.set_cons_zero, List.set_cons_succ]
  refine WD_free (i := 8) (oi := _) (v := ?_) rfl (by kernel_rfl) (fun _ _ _ h => h) (Or.inl ⟨by rfl, ?_⟩) ?_
  rotate_left
  · (intro W hS; (try dsimp only at hS); clear hS; go_simp; with_reducible rfl)
  try simp only [Act.put, List.getElem_toArray, List.getElem_cons_succ, List.getElem_cons_zero, List.setIfInBounds_toArray, List.set_cons_zero, List.set_cons_succ]
  refine WD_take (i := 9) (oi := _) (v := ?_) rfl (by kernel_rfl) (fun _ _ _ h => h) (Or.inl ⟨by rfl, ?_⟩) (by assumption) ?_
  rotate_left
  · (intro W hS; (try dsimp only at hS); have kk := (hS.cell (p := ⟨cb, 2, none⟩) zcb).trans d2; clear hS; go_simp; with_reducible rfl)
  try simp only [Act.put, List.getElem_toArray, List.getElem_cons_succ, List.getElem_cons_zero, List.setIfInBounds_toArray, List.set_cons_zero, List.set_cons_succ]
  refine WD_step (i := 10) (o := _) rfl (by kernel_rfl) (fun K hK => ?_)
  go_simp
  refine (HSp.out _ (HRm.out.below hHeld (Nat.le_refl _))).mono ?_
  rintro e w6 ⟨⟨v6, rfl, hown6⟩, hb6⟩
  obtain ⟨ad, cap, rfl, hpt⟩ := own_pts hown6
  go_wp2_with fail
  replace hHeld := below_two hHeld hb6
  refine hK.out _ _ (fun _ _ => hHeld) ?_
  clear hK K
  try simp only [Act.put, List.getElem_toArray, List.getElem_cons_succ, List.getElem_cons_zero, List.setIfInBounds_toArray, List.set_cons_zero, List.set_cons_succ]
  refine WD_free (i := 11) (oi := _) (v := ?_) rfl (by kernel_rfl) (fun _ _ _ h => h) (Or.inl ⟨by rfl, ?_⟩) ?_
  rotate_left
  · (intro W hS; (try dsimp only at hS); clear hS; go_simp; with_reducible rfl)
  try simp only [Act.put, List.getElem_toArray, List.getElem_cons_succ, List.getElem_cons_zero, List.setIfInBounds_toArray, List.set_cons_zero, List.set_cons_succ]
  refine WD_free (i := 12) (oi := _) (v := ?_) rfl (by kernel_rfl) (fun _ _ _ h => h) (Or.inl ⟨by rfl, ?_⟩) ?_
  rotate_left
  · (intro W hS; (try dsimp only at hS); clear hS; go_simp; with_reducible rfl)
  try simp only [Act.put, List.getElem_toArray, List.getElem_cons_succ, List.getElem_cons_zero, List.setIfInBounds_toArray, List.set_cons_zero, List.set_cons_succ]
  refine WD_free (i := 13) (oi := _) (v := ?_) rfl (by kernel_rfl) (fun _ _ _ h => h) (Or.inl ⟨by rfl, ?_⟩) ?_
  rotate_left
  · (intro W hS; (try dsimp only at hS); clear hS; go_simp; with_reducible rfl)
  try simp only [Act.put, List.getElem_toArray, List.getElem_cons_succ, List.getElem_cons_zero, List.setIfInBounds_toArray, List.set_cons_zero, List.set_cons_succ]
  refine WD_free (i := 14) (oi := _) (v := ?_) rfl (by kernel_rfl) (fun _ _ _ h => h) (Or.inl ⟨by rfl, ?_⟩) ?_
  rotate_left
  · (intro W hS; (try dsimp only at hS); clear hS; go_simp; with_reducible rfl)
  try simp only [Act.put, List.getElem_toArray, List.getElem_cons_succ, List.getElem_cons_zero, List.setIfInBounds_toArray, List.set_cons_zero, List.set_cons_succ]
  refine WD_free (i := 15) (oi := _) (v := ?_) rfl (by kernel_rfl) (fun _ _ _ h => h) (Or.inl ⟨by rfl, ?_⟩) ?_
  rotate_left
  · (intro W hS; (try dsimp only at hS); clear hS; go_simp; with_reducible rfl)
  try simp only [Act.put, List.getElem_toArray, List.getElem_cons_succ, List.getElem_cons_zero, List.setIfInBounds_toArray, List.set_cons_zero, List.set_cons_succ]
  refine WD_done (by kernel_rfl) ?_ _

  have HP := Lib.hid hpt
  have HH := Lib.hid hHeld
  have z6 := hHeld.size
  clear hHeld hpt hb6 hown6 d0 d2
  go_wp2
  go_loopw [8, 46] (fun lv iv wr => ∃ I : Nat, iv = .int .i64 I ∧ I ≤ n ∧ Hid (Below w6.heap.size w6 wr) ∧ Hid (wr.ownsRow w6.heap.size 2 1 lv I (inV (shV (shP p x t R) p I)))) (fun _ iv _ => n - (intOf iv).toNat)
  case atStart => exact ⟨0, rfl, by omega, Lib.hid (Below.refl _ _), Lib.hid (World.ownsRow_nil _ _ _ _)⟩
  case round =>
    obtain ⟨I, rfl, hI, HB, HO⟩ := hrel
    by_cases hIe : I = n
    · subst hIe
      go_wp2_with fail
      go_ret
      have hbb := below_two HH.out HB.out
      exact ⟨⟨shP p x t R, _, rfl, HPF.out, HZ.out, own_lower HO.out (by omega)⟩, HC3.out.below hbb, HB3.out.trans (Butc.below hbb zcb)⟩
    · have hI2 : (I : Int) < n := by omega
      have hI3 : I < n := by omega
      obtain ⟨g, rfl, hc⟩ := (HP.out.below HB.out (Nat.le_refl _)) (by omega)
      obtain ⟨kx, ky⟩ := ptsV_at p (x :: moreL t R) I n hI3
      replace kx := hc _ _ kx
      replace ky := hc _ _ ky
      have hst := shV_step (shP p x t R) p I
      rw [shP_mod] at hst
      obtain ⟨y, hy⟩ : ∃ y, valL p (x :: moreL t R) ((I : Int) + 1) = y := ⟨_, rfl⟩
      rw [hy] at hst ky
      have HST := Lib.hid hst
      have hown := HO.out
      have hz := HB.out.size
      clear hc hy hst
      go_wp2_with (first
        | (at_builtin; refine wpList_append_own _ rfl _ _ 22 rfl w6.heap.size 2 i0 (.int .i64 0) 1 8 hu hi hz0 hz1 hz2 rfl (by decide) _ _ _ rfl ((hown.alloc _).alloc _) ⟨wr.heap.size + 1, 0, none⟩ 1 1 [.int .i64 y] rfl rfl (cell_newLn (by simp) rfl) (by simp [Value.oneCell']) (by unfold maxLen; omega) (by omega) (by simp; omega) ?_; intro v' w2 hown' hg2 hnil2))
      have kk2 := ((HB.out.alloc hz (.cells #[.int .i64 ((I : Int) + 1), .int .i64 y] 43)).alloc (by simp; omega) (.cells #[.int .i64 (y)] 2)).grown hg2 (by simp; omega) (fun j hj => (hown.lt j hj).1)
      go_round
      case rel => exact ⟨I + 1, by go_num, by omega, Lib.hid kk2, Lib.hid (by rw [HST.out]; simpa [inV] using hown')⟩
      case measure => simp [intOf]; omega
end Go.Proofs.Ytfgmnlphejpcaaa

/- (*parts.crowd).mul. -/
namespace Go.Proofs.Ytfgmnlphejpcaaa
open Go.RowKit
set_option linter.unusedVariables false
set_option linter.unusedSimpArgs false
theorem Crowd.drew {W : World} {cb : Nat} {p : Int} {t n : Nat} {w0 : World} (h : Crowd W cb p t n w0) : Crowd W.drew cb p t n w0 := ⟨h.c0, h.c1, h.c2, h.c3, h.fr, h.old.drew, h.le⟩
theorem Butc.drew (cb : Nat) (W : World) : Butc cb W W.drew := ⟨(Below.refl _ _).drew, Nat.le_refl _, fun _ _ _ => rfl⟩
theorem Butc.cell {cb : Nat} {w w' : World} (h : Butc cb w w') {b o : Nat} {v : Value} (hb : b ≠ cb) (k : w.cell? ⟨b, o, none⟩ = some v) : w'.cell? ⟨b, o, none⟩ = some v :=
  (World.cell?_of_block (w := w) (a := ⟨b, o, none⟩) (h.block b (World.block_lt_of_cell? _ _ k) hb)).trans k
/-- so far: the shares of some function, whose value at 0 is a sum of weighted products -/
structure MulI (p : Int) (t n : Nat) (A B : Int → Int) (I : Nat) (g : Int → Int) : Prop where
  pf : PF p (t + 1) g
  k : ∃ K : Int → Int, (∀ x ∈ xsN I, K x * Zx (xsN n) x x % p = (A x * B x) * Zx (xsN n) x 0 % p) ∧ g 0 % p = ((xsN I).map K).sum % p
theorem MulI.zero (p : Int) (t n : Nat) (A B : Int → Int) : MulI p t n A B 0 (fun _ => 0) :=
  ⟨PF.zero _ _, fun _ => 0, fun x hx => by have := xsN_mem.1 hx; omega, rfl⟩
theorem MulI.step {p : Int} {t n : Nat} {A B : Int → Int} {I : Nat} {g f : Int → Int} {k : Int} (hp : 1 ≤ p) (h : MulI p t n A B I g) (hf : PF p (t + 1) f)
    (hk : k * Zx (xsN n) ((I : Int) + 1) ((I : Int) + 1) % p = Zx (xsN n) ((I : Int) + 1) 0 % p) (h0 : f 0 % p = A ((I : Int) + 1) * B ((I : Int) + 1) % p) : MulI p t n A B (I + 1) (fun z => g z + k * f z) := by
  obtain ⟨K, h1, h2⟩ := h.k
  refine ⟨h.pf.add hp (hf.smul hp k), fun z => if z = (I : Int) + 1 then k * f 0 else K z, fun x hx => ?_, ?_⟩
  · show (if x = (I : Int) + 1 then k * f 0 else K x) * _ % p = _
    by_cases e : x = (I : Int) + 1
    · subst e
      rw [if_pos rfl, show k * f 0 * Zx (xsN n) ((I : Int) + 1) ((I : Int) + 1) = k * Zx (xsN n) ((I : Int) + 1) ((I : Int) + 1) * f 0 by grind, Int.mul_emod, hk, h0, ← Int.mul_emod, Int.mul_comm]
    · rw [if_neg e]
      exact h1 x (xsN_mem.2 (by have := xsN_mem.1 hx; omega))
  · rw [sum_step, if_pos rfl]
    have e : (xsN I).map (fun z => if z = (I : Int) + 1 then k * f 0 else K z) = (xsN I).map K := List.map_congr_left fun z hz => by
      rw [if_neg (fun e : z = (I : Int) + 1 => by have := xsN_mem.1 hz; omega)]
    rw [e, Int.add_emod, h2, ← Int.add_emod]
theorem MulI.done {p : Int} {t n : Nat} {A B : Int → Int} {g : Int → Int} (hpr : prB p = true) (hp : 2 ≤ p) (hn : (n : Int) < p) (ht : n = 2 * t + 1) (hA : PF p (t + 1) A) (hB : PF p (t + 1) B) (h : MulI p t n A B n g) : g 0 % p = A 0 * B 0 % p := by
  obtain ⟨K, h1, h2⟩ := h.k
  rw [h2]
  exact lag_law2 hpr hp (xsN_nodup n) (fun x hx => by have := xsN_mem.1 hx; omega) (D := fun x => A x * B x) ((PF.mul (by omega) hA hB).mono (by rw [xsN_len]; omega)) h1
theorem lin_bd {p : Int} (hp : p ≤ 251) {x k y : Int} (hx : 0 ≤ x ∧ x < p) (hk : 0 ≤ k ∧ k < p) (hy : 0 ≤ y ∧ y < p) : 0 ≤ x + k * y ∧ x + k * y ≤ 1000000000 := by
  obtain ⟨h1, h2⟩ := mul_bd2 hp hk.1 hk.2 hy.1 hy.2
  omega
set_option maxRecDepth 20000 in
set_option maxHeartbeats 6400000 in
theorem crowd_mul (p : Int) (t n cb : Nat) (w0 w : World) (A B : Int → Int) (a b : Option Addr) (c d : Nat) (hC : Crowd w cb p t n w0) (hpr : primeE p = 0) (ht : t ≤ 4) (hn : n = 2 * t + 1) (hnp : (n : Int) < p) (hA : PF p (t + 1) A) (hB : PF p (t + 1) B) (h1 : RowL w a c (shV A p n)) (h2 : RowL w b d (shV B p n)) :
    Calls Try.prog 64 #[.pointer (some ⟨cb, 0, none⟩), .slice a n c, .slice b n d] w fun e w' => (∃ (f : Int → Int) (v : Value), e = .returned v ∧ PF p (t + 1) f ∧ f 0 % p = A 0 * B 0 % p ∧ w'.ownsRow w.heap.size 2 1 v n (inV (shV f p n))) ∧ Crowd w' cb p t n w0 ∧ Butc cb w w' := by
  have hp := primeE_zero hpr
  have p2 := hp.2.1
  have p1 : 2 ≤ p := by have := hp.1; omega
  have hcb := hC.lt
  have HCR := Lib.hid hC
  have c0 := hC.c0
  have c2 := hC.c2
  have HA := Lib.hid h1
  have HB := Lib.hid h2
  have HDone := Lib.hid fun g (h : MulI p t n A B n g) => h.done hp.2.2 p1 hnp hn hA hB
  have HPrb := Lib.hid hp.2.2
  have HSh0 := Lib.hid fun (y : Int) (W : World) (hy : 0 ≤ y ∧ y < p) (h : Crowd W cb p t n w0) => crowd_share p y t n cb w0 W h hpr ht hn hnp hy
  have HWt := Lib.hid fun (y : Nat) (W : World) (h : Crowd W cb p t n w0) (y1 : 1 ≤ y) (y2 : y ≤ n) => crowd_weight p n y cb W h.c0 h.c2 hp.2.2 p1 p2 hnp y1 y2
  have hrg : ∀ f : Int → Int, ∀ x ∈ shV f p n, 0 ≤ x ∧ x < p := fun f => shV_rng (by omega)
  have HRg := Lib.hid hrg
  have HE1 := Lib.hid fun (W : World) (h1 : RowL W a c (shV A p n)) (h2 : RowL W b d (shV B p n)) => parts_each (fun x y => x * y) 78 #[] (enters_of Try.func78 (by kernel_rfl) rfl) p a b c d (shV A p n) (shV B p n) W (n := n) h1 h2 (shV_len _ _ _) (shV_len _ _ _) (by omega) (by omega)
    (fun W' x y _ hx hy => by
      have q1 := hrg A x hx
      have q2 := hrg B y hy
      obtain ⟨m1, m2⟩ := mul_bd2 p2 q1.1 q1.2 q2.1 q2.2
      exact ⟨m1, by show x * y ≤ _; omega, mul1_c x y W' (by omega) (by omega)⟩)
  have HE2 := Lib.hid fun (W : World) (k : Int) (bw g8 c8 g7 c7 : Nat) (g f : Int → Int) (hk : 0 ≤ k ∧ k < p) (hbw : W.cell? ⟨bw, 0, none⟩ = some (.int .i64 k)) (h1 : RowL W (some ⟨g8, 0, none⟩) c8 (shV g p n)) (h2 : RowL W (some ⟨g7, 0, none⟩) c7 (shV f p n)) =>
    parts_each (fun x y => x + k * y) 80 #[.pointer (some ⟨bw, 0, none⟩)] (enters_of Try.func80 (by kernel_rfl) rfl) p (some ⟨g8, 0, none⟩) (some ⟨g7, 0, none⟩) c8 c7 (shV g p n) (shV f p n) W (n := n) h1 h2 (shV_len _ _ _) (shV_len _ _ _) (by omega) (by omega)
    (fun W' x y hb' hx hy => by
      have q1 := hrg g x hx
      have q2 := hrg f y hy
      obtain ⟨m1, m2⟩ := lin_bd p2 q1 hk q2
      exact ⟨m1, m2, mul2_c x y k bw W' (kept hb' hbw (World.block_lt_of_cell? _ _ hbw)) (by omega) (by omega) (by omega)⟩)
  obtain ⟨i0, hi, hz0, hz1, hz2⟩ := info_parts long_info
  have hu : Try.prog.underlying 22 = some (.slice 2) := by kernel_rfl
  have hmf : ∀ (fn : Fn) (first cap : Array Value) (w : World), (Instr.makeFunc fn first cap).run Try.prog w = .ok (.func fn first cap) w := fun _ _ _ _ => rfl
  have hn9 : n ≤ 9 := by omega
  have hn1 : 0 < n := by omega
  clear hC hpr hp hn hA hB h1 h2 hrg
  go_enter Try.func64, Try.ntmps64
  go_wp2_with (first
      | (at_make; refine wpList_make_full _ rfl _ _ 22 rfl w.heap.size 2 i0 (.int .i64 0) 1 hu hi hz0 hz1 .i64 .i64 _ _ n rfl rfl rfl rfl (by rw [hz2]; omega) (by unfold maxLen; omega) (Nat.le_refl _) ?_
         intro w1 hown1 hg1
         rw [Nat.mul_one, show (Value.int IntKind.i64 0).cells = #[Value.int .i64 0] from rfl, made_one, show List.replicate n (Value.int .i64 0) = inV (shV (fun _ => 0) p n) by rw [sh_zero]; simp [inV]] at hown1
         have HO1 := Lib.hid hown1
         have hb1 := ((Below.refl w.heap.size w).grown hg1 (Nat.le_refl _) (fun j hj => by cases hj))
         have HB1 := Lib.hid hb1
         have HC1 := Lib.hid (HCR.out.below hb1)
         have c0' := HC1.out.c0
         have c2' := HC1.out.c2
         clear hown1 hg1 hb1 c0 c2))
  refine (HE1.out _ (HA.out.below HB1.out (Nat.le_refl _)) (HB.out.below HB1.out (Nat.le_refl _))).mono ?_
  rintro e w2 ⟨⟨v2, rfl, hown2⟩, hb2⟩
  rw [sh_mul] at hown2
  obtain ⟨g2, d2, rfl, hg21, hg22, _, _⟩ := own_shape hown2 hn1
  have z1 := HB1.out.size
  have HO2 := Lib.hid (own_lower hown2 z1)
  have HO2' := Lib.hid (own_keep HO1.out hb2)
  have HB2 := Lib.hid (Butc.below (below_two HB1.out hb2) hcb)
  have HC2 := Lib.hid (HC1.out.below hb2)
  have z2 := hb2.size
  clear hown2 hb2 c0' c2' HO1 HB1 HC1 HE1 HA HB
  go_wp2
  go_loopw [7, 26] (fun lv iv wr => ∃ (I : Nat) (g : Int → Int), iv = .int .i64 I ∧ I ≤ n ∧ Hid (MulI p t n A B I g) ∧ Hid (Butc cb w2 wr) ∧ Hid (Crowd wr cb p t n w0) ∧ Hid (wr.ownsRow w.heap.size 2 1 lv n (inV (shV g p n)))) (fun _ iv _ => n - (intOf iv).toNat)
  case atStart => exact ⟨0, fun _ => 0, rfl, by omega, Lib.hid (MulI.zero _ _ _ _ _), Lib.hid (Butc.refl _ _), HC2, HO2'⟩
  case round =>
    obtain ⟨I, g, rfl, hI, HM, HBr, HCr, HO⟩ := hrel
    by_cases hIe : I = n
    · subst hIe
      go_wp2_with fail
      go_ret
      exact ⟨⟨g, _, rfl, HM.out.pf, HDone.out g HM.out, HO.out⟩, HCr.out, HB2.out.trans HBr.out⟩
    · have hI2 : (I : Int) < n := by omega
      have hI3 : I < n := by omega
      have hprod := own_but HO2.out HBr.out (by omega)
      have kx := own_cell hprod (i := I) (u := .int .i64 (A ((I : Int) + 1) * B ((I : Int) + 1) % p)) (by rw [inV, List.getElem?_map, shV_get hI3]; rfl)
      have hx : 0 ≤ A ((I : Int) + 1) * B ((I : Int) + 1) % p ∧ A ((I : Int) + 1) * B ((I : Int) + 1) % p < p := ⟨Int.emod_nonneg _ (by omega), Int.emod_lt_of_pos _ (by omega)⟩
      obtain ⟨x, hxe⟩ : ∃ x, A ((I : Int) + 1) * B ((I : Int) + 1) % p = x := ⟨_, rfl⟩
      have HXE := Lib.hid hxe
      rw [hxe] at hx kx
      have HSh := Lib.hid fun W h => HSh0.out x W hx h
      have hwt := HWt.out (I + 1) wr HCr.out (by omega) (by omega)
      rw [show (((I + 1 : Nat) : Int)) = (I : Int) + 1 by omega] at hwt
      have HWT := Lib.hid hwt
      obtain ⟨go, co, rfl, hgo1, hgo2, _, _⟩ := own_shape HO.out hn1
      have g1 : IntKind.i64.wrap ((I : Int) + 1) = (I : Int) + 1 := IntWalk.i64_in _ (by omega)
      clear hprod hxe hwt hx
      go_wp2_with fail
      refine HWT.out.mono ?_
      rintro e w5 ⟨⟨k, rfl, k1, k2, k3⟩, hb5⟩
      have HK3 := Lib.hid k3
      have HC5 := Lib.hid (HCr.out.below hb5)
      have hcb5 := HC5.out.lt
      obtain ⟨W6, hW6⟩ : ∃ W, w5.alloc (.cells #[.int .i64 k] 2) = W := ⟨_, rfl⟩
      have hb6 : Below w5.heap.size w5 W6 := hW6 ▸ alloc_below w5 _
      have HC6 := Lib.hid (HC5.out.below hb6)
      have HO6 := Lib.hid (own_keep HO.out (below_two hb5 hb6))
      have HB6 := Lib.hid (HBr.out.trans (Butc.below (below_two hb5 hb6) HCr.out.lt))
      have hbx : W6.cell? ⟨w5.heap.size, 0, none⟩ = some (.int .i64 k) := by rw [← hW6]; simp [go_sem]
      obtain ⟨bw, hbw⟩ : ∃ b, w5.heap.size = b := ⟨_, rfl⟩
      rw [hbw] at hbx hcb5
      have HBX := Lib.hid hbx
      have HEa := Lib.hid fun (W : World) (f : Int → Int) (g7 c7 : Nat) (hB : Butc cb W6 W) (h : ∃ base, W.ownsRow base 2 1 (.slice (some ⟨g7, 0, none⟩) n c7) n (inV (shV f p n))) =>
        HE2.out W k bw go co g7 c7 g f ⟨k1, k2⟩ (hB.cell (by omega) hbx) (row_ownL (own_but HO6.out hB (by omega))) (by obtain ⟨base, h⟩ := h; exact row_ownL h)
      clear k3 HWT HO hb5
      go_wp2_with fail
      try rw [hbw]
      try rw [hW6]
      clear hW6 hbw hb6 hbx kx
      refine wp_region_D (S := (fun W : World => Crowd W cb p t n w0 ∧ Butc cb W6 W)) (fun _ => true) (by kernel_rfl) ⟨HC6.out.drew, Butc.drew _ _⟩ (fun hHeld => ?_)
      simp only [List.size_toArray, List.length_cons, List.length_nil, Nat.reduceAdd, Array.replicate_succ, Array.replicate_zero, List.push_toArray, List.append_toArray, List.nil_append, List.cons_append]
      refine WD_free (i := 0) (oi := _) (v := ?_) rfl (by kernel_rfl) (fun _ _ _ h => h) (Or.inl ⟨by rfl, ?_⟩) ?_
      rotate_left
      · (intro W hS; (try dsimp only at hS); clear hS; go_simp; with_reducible rfl)
      try simp only [Act.put, List.getElem_toArray, List.getElem_cons_succ, List.getElem_cons_zero, List.setIfInBounds_toArray, List.set_cons_zero, List.set_cons_succ]
      refine WD_free (i := 1) (oi := _) (v := ?_) rfl (by kernel_rfl) (fun _ _ _ h => h) (Or.inl ⟨by rfl, ?_⟩) ?_
      rotate_left
      · (intro W hS; (try dsimp only at hS); clear hS; go_simp; with_reducible rfl)
      try simp only [Act.put, List.getElem_toArray, List.getElem_cons_succ, List.getElem_cons_zero, List.setIfInBounds_toArray, List.set_cons_zero, List.set_cons_succ]
      refine WD_free (i := 2) (oi := _) (v := ?_) rfl (by kernel_rfl) (fun _ _ _ h => h) (Or.inl ⟨by rfl, ?_⟩) ?_
      rotate_left
      · (intro W hS; (try dsimp only at hS); clear hS; go_simp; with_reducible rfl)
      try simp only [Act.put, List.getElem_toArray, List.getElem_cons_succ, List.getElem_cons_zero, List.setIfInBounds_toArray, List.set_cons_zero, List.set_cons_succ]
      refine WD_free (i := 4) (oi := _) (v := ?_) rfl (by kernel_rfl) (fun _ _ _ h => h) (Or.inl ⟨by rfl, ?_⟩) ?_
      rotate_left
      · (intro W hS; (try dsimp only at hS); clear hS; go_simp; with_reducible rfl)
      try simp only [Act.put, List.getElem_toArray, List.getElem_cons_succ, List.getElem_cons_zero, List.setIfInBounds_toArray, List.set_cons_zero, List.set_cons_succ]
      refine WD_free (i := 5) (oi := _) (v := ?_) rfl (by kernel_rfl) (fun _ _ _ h => h) (Or.inl ⟨by rfl, ?_⟩) ?_
      rotate_left
      · (intro W hS; (try dsimp only at hS); clear hS; go_simp; with_reducible rfl)
      try simp only [Act.put, List.getElem_toArray, List.getElem_cons_succ, List.getElem_cons_zero, List.setIfInBounds_toArray, List.set_cons_zero, List.set_cons_succ]
      refine WD_free (i := 6) (oi := _) (v := ?_) rfl (by kernel_rfl) (fun _ _ _ h => h) (Or.inl ⟨by rfl, ?_⟩) ?_
      rotate_left
      · (intro W hS; (try dsimp only at hS); clear hS; go_simp; with_reducible rfl)
      try simp only [Act.put, List.getElem_toArray, List.getElem_cons_succ, List.getElem_cons_zero, List.setIfInBounds_toArray, List.set_cons_zero, List.set_cons_succ]
      refine WD_take (i := 7) (oi := _) (v := ?_) rfl (by kernel_rfl) (fun _ _ _ h => h) (Or.inl ⟨by rfl, ?_⟩) (by assumption) ?_
      rotate_left
      · (intro W hS; (try dsimp only at hS); have kk := hS.1.c0; clear hS; go_simp; with_reducible rfl)
      try simp only [Act.put, List.getElem_toArray, List.getElem_cons_succ, List.getElem_cons_zero, List.setIfInBounds_toArray, List.set_cons_zero, List.set_cons_succ]
      refine WD_free (i := 8) (oi := _) (v := ?_) rfl (by kernel_rfl) (fun _ _ _ h => h) (Or.inl ⟨by rfl, ?_⟩) ?_
      rotate_left
      · (intro W hS; (try dsimp only at hS); clear hS; go_simp; with_reducible rfl)
      try simp only [Act.put, List.getElem_toArray, List.getElem_cons_succ, List.getElem_cons_zero, List.setIfInBounds_toArray, List.set_cons_zero, List.set_cons_succ]
      refine WD_step (i := 3) (o := _) rfl (by kernel_rfl) (fun K hK => ?_)
      go_simp
      refine (HSh.out _ hHeld.1).mono ?_
      rintro e W7 ⟨⟨f, v7, rfl, hf1, hf2, hown7⟩, hC7, hB7⟩
      obtain ⟨g7, c7, rfl, hg7, _, _, _⟩ := own_shape hown7 hn1
      have hHeld7 : Crowd W7 cb p t n w0 ∧ Butc cb W6 W7 := ⟨hC7, hHeld.2.trans hB7⟩
      have z7 : W6.heap.size ≤ W7.heap.size := hHeld7.2.size
      go_wp2_with fail
      replace hHeld := hHeld7
      refine hK.out _ _ (fun _ _ => hHeld) ?_
      clear hK K
      try simp only [Act.put, List.getElem_toArray, List.getElem_cons_succ, List.getElem_cons_zero, List.setIfInBounds_toArray, List.set_cons_zero, List.set_cons_succ]
      clear hHeld7
      refine WD_step (i := 9) (o := _) rfl (by kernel_rfl) (fun K hK => ?_)
      go_simp
      refine (HEa.out W7 f g7 c7 hHeld.2 ⟨_, hown7⟩).mono ?_
      rintro e W8 ⟨⟨v8, rfl, hown8⟩, hb8⟩
      go_wp2_with fail
      replace hHeld := (⟨hHeld.1.below hb8, hHeld.2.trans (Butc.below hb8 hHeld.1.lt)⟩ : Crowd W8 cb p t n w0 ∧ Butc cb W6 W8)
      refine hK.out _ _ (fun _ _ => hHeld) ?_
      clear hK K
      try simp only [Act.put, List.getElem_toArray, List.getElem_cons_succ, List.getElem_cons_zero, List.setIfInBounds_toArray, List.set_cons_zero, List.set_cons_succ]
      refine WD_free (i := 10) (oi := _) (v := ?_) rfl (by kernel_rfl) (fun _ _ _ h => h) (Or.inl ⟨by rfl, ?_⟩) ?_
      rotate_left
      · (intro W hS; (try dsimp only at hS); clear hS; go_simp; with_reducible rfl)
      try simp only [Act.put, List.getElem_toArray, List.getElem_cons_succ, List.getElem_cons_zero, List.setIfInBounds_toArray, List.set_cons_zero, List.set_cons_succ]
      refine WD_done (by kernel_rfl) ?_ _

      have HMn := Lib.hid (HM.out.step (by omega) hf1 HK3.out (hf2.trans HXE.out.symm))
      have HBn := Lib.hid (HB6.out.trans hHeld.2)
      have HCn := Lib.hid hHeld.1
      rw [sh_lin] at hown8
      have HOn := Lib.hid (own_lower (base' := w.heap.size) hown8 (by have := HB2.out.size; have := (HB6.out).size; have := hB7.size; have := hHeld.2.size; omega))
      clear hHeld hown8 hf1 hf2 hown7 hg7 hC7 hB7 hb8
      go_wp2_with fail
      go_round
      case rel => exact ⟨I + 1, _, by go_num, by omega, HMn, HBn, HCn, HOn⟩
      case measure => simp [intOf]; omega
end Go.Proofs.Ytfgmnlphejpcaaa

/- slices.Repeat of one int64, an odd number of times up to nine. -/
namespace Go.Proofs.Ytfgmnlphejpcaaa
open Go.RowKit
set_option linter.unusedVariables false
set_option linter.unusedSimpArgs false
/-- N copies, then zeros -/
def repL (y : Int) (n N : Nat) : List Int := List.replicate N y ++ List.replicate (n - N) 0
theorem repL_len {y : Int} {n N : Nat} (h : N ≤ n) : (repL y n N).length = n := by simp [repL]; omega
theorem repL_all (y : Int) (n : Nat) : repL y n n = List.replicate n y := by simp [repL]
theorem repL_step {y : Int} {n N k : Nat} (h : N + k ≤ n) : splice (inV (repL y n N)) N (inV (List.replicate k y)) = inV (repL y n (N + k)) := by
  have e1 : splice (inV (repL y n N)) N (inV (List.replicate k y)) = inV (splice (repL y n N) N (List.replicate k y)) := by
    simp [splice, inV, List.map_take, List.map_drop]
  rw [e1]
  congr 1
  unfold splice repL
  rw [List.take_append_of_le_length (by simp), List.take_of_length_le (by simp), List.length_replicate, List.drop_append, List.length_replicate, List.drop_eq_nil_of_le (by simp), List.nil_append, List.drop_replicate, ← List.append_assoc, List.replicate_append_replicate, show n - N - (N + k - N) = n - (N + k) by omega]
theorem rep_src {W : World} {y : Int} {g n N k : Nat} (h : W.heap[g]? = some (.cells (inV (repL y n N)).toArray 2 (0, 0))) (hk : k ≤ N) {j : Nat} {v : Value} (hj : (inV (List.replicate k y))[j]? = some v) : W.cell? ((⟨g, 0, none⟩ : Addr).add j) = some v := by
  have hl : j < k := by have := (List.getElem?_eq_some_iff.1 hj).1; simpa [inV] using this
  rw [add_at]
  simp only [World.cell?]; rw [h]
  have e : (inV (repL y n N))[j]? = some v := by
    rw [← hj]
    simp only [inV, List.getElem?_map, repL]
    rw [List.getElem?_append_left (by simp; omega), List.getElem?_replicate, List.getElem?_replicate, if_pos (by omega), if_pos hl]
  simpa using e
set_option maxHeartbeats 1600000 in
theorem bits_Mul_one (n : Nat) (w : World) (h : n = 1 ∨ n = 3 ∨ n = 5 ∨ n = 7 ∨ n = 9) : Calls Try.prog 77 #[.int .u64 1, .int .u64 n] w fun e w' => e = .returned (.tuple #[.int .u64 0, .int .u64 n]) ∧ w = w' := by
  rcases h with rfl | rfl | rfl | rfl | rfl
  all_goals
    go_enter Try.func77, Try.ntmps77
    go_wp2
    go_ret2
    exact ⟨rfl, rfl⟩
set_option maxRecDepth 20000 in
set_option maxHeartbeats 6400000 in
theorem slices_Repeat_one (y : Int) (n g : Nat) (w : World) (hn : n = 1 ∨ n = 3 ∨ n = 5 ∨ n = 7 ∨ n = 9) (hc : w.cell? ⟨g, 0, none⟩ = some (.int .i64 y)) :
    Calls Try.prog 61 #[.slice (some ⟨g, 0, none⟩) 1 1, .int .i64 n] w fun e w' => (∃ v, e = .returned v ∧ w'.ownsRow w.heap.size 2 1 v n (inV (List.replicate n y))) ∧ Below w.heap.size w w' := by
  have HM := Lib.hid fun W => bits_Mul_one n W hn
  have n1 : 1 ≤ n := by omega
  have n9 : n ≤ 9 := by omega
  have zg : g < w.heap.size := World.block_lt_of_cell? _ _ hc
  obtain ⟨i0, hi, hz0, hz1, hz2⟩ := info_parts long_info
  have hu : Try.prog.underlying 22 = some (.slice 2) := by kernel_rfl
  have f1 : IntKind.u64.wrap (n : Int) = (n : Int) := by rw [IntKind.wrap_u64]; omega
  have f2 : IntKind.i64.wrap (n : Int) = (n : Int) := IntWalk.i64_in _ (by omega)
  have e0 : List.replicate n (Value.int .i64 0) = inV (repL y n 0) := by simp [repL, inV]
  have HC := Lib.hid hc
  clear hn hc
  go_enter Try.func61, Try.ntmps61
  go_wp2_with fail
  refine (HM.out _).mono ?_
  rintro e w0 ⟨rfl, rfl⟩
  go_wp2_with (first
      | (at_make; refine wpList_make_full _ rfl _ _ 22 rfl w.heap.size 2 i0 (.int .i64 0) 1 hu hi hz0 hz1 .i64 .i64 _ _ n rfl rfl rfl rfl (by rw [hz2]; omega) (by unfold maxLen; omega) (Nat.le_refl _) ?_
         intro w1 hown1 hg1
         rw [Nat.mul_one, show (Value.int IntKind.i64 0).cells = #[Value.int .i64 0] from rfl, made_one, e0] at hown1
         have HG0 := Lib.hid (own_full hown1)
         have HB0 := Lib.hid ((Below.refl w.heap.size w).grown hg1 (Nat.le_refl _) (fun j hj => by cases hj))
         have hc1 := (HB0.out.cell (p := ⟨g, 0, none⟩) zg).trans HC.out
         clear hown1 hg1)
      | (with_reducible refine wpList_copy_splice (o := ⟨some 33, _, _, _, _, _⟩) rfl _ _ 22 22 rfl 2 hu (by rw [hi]; simp [hz1]) (some ⟨w.heap.size, 0, none⟩) (some ⟨g, 0, none⟩) n n 1 1 rfl rfl w.heap.size 0 (inV (repL y n 0)) 2 HG0.out (inV (List.replicate 1 y)) ?cn ?cp ?cf (inV_one _) w.heap.size w HB0.out (Nat.le_refl _) ?_))
  case cn => rw [inV_len, List.length_replicate]; exact (Nat.min_eq_left n1).symm
  case cf => rw [inV_len, inV_len, List.length_replicate, repL_len (by omega)]; omega
  case cp =>
    intro _ j v hj
    match j, hj with
    | 0, hj => cases hj; exact hc1
  intro w2 hcg hb2
  have hst : splice (inV (repL y n 0)) 0 (inV [y]) = inV (repL y n (0 + 1)) := repL_step (k := 1) (by omega)
  have HG2 := Lib.hid (hst ▸ hcg.out)
  clear hst
  have HB2 := Lib.hid hb2
  clear hcg hb2 HG0 HB0 hc1 e0
  go_wp2
  go_loopw [8] (fun nv wr => ∃ N : Nat, nv = .int .i64 N ∧ 1 ≤ N ∧ N ≤ n ∧ Hid (wr.heap[w.heap.size]? = some (.cells (inV (repL y n N)).toArray 2 (0, 0))) ∧ Hid (Below w.heap.size w wr)) (fun nv _ => n - (intOf nv).toNat)
  case atStart => exact ⟨1, rfl, by omega, n1, HG2, HB2⟩
  case round =>
    clear HG2 HB2
    obtain ⟨N, rfl, hN1, hNn, HG, HB⟩ := hrel
    by_cases hNe : N = n
    · subst hNe
      go_wp2
      go_ret
      have hg := HG.out
      exact ⟨⟨_, rfl, by rw [← repL_all]; exact own_of (Nat.le_refl _) (by rw [inV_len, repL_len (Nat.le_refl _)]) hg⟩, HB.out⟩
    · have hN2 : (N : Int) < n := by omega
      have hN3 : ¬ n = N := by omega
      have hN4 : ¬ n = 0 := by omega
      obtain ⟨k, hk⟩ : ∃ k, Nat.min N (n - N) = k := ⟨_, rfl⟩
      have HKK := Lib.hid hk
      have hk1 : 1 ≤ k := by rw [← hk]; exact Nat.le_min.2 ⟨hN1, by omega⟩
      have hk3 : k ≤ N := by rw [← hk]; exact Nat.min_le_left _ _
      have hk2 : N + k ≤ n := by have : k ≤ n - N := by rw [← hk]; exact Nat.min_le_right _ _
                                 omega
      have f3 : IntKind.i64.wrap ((N : Int) + (k : Int)) = (N : Int) + (k : Int) := IntWalk.i64_in _ (by omega)
      clear hk hNe
      go_wp2
      refine wp_region_D (S := (fun W : World => Below w.heap.size w W)) (fun _ => true) (by kernel_rfl) HB.out.drew (fun hHeld => ?_)
      simp only [List.size_toArray, List.length_cons, List.length_nil, Nat.reduceAdd, Array.replicate_succ, Array.replicate_zero, List.push_toArray, List.append_toArray, List.nil_append, List.cons_append]
      refine WD_free (i := 0) (oi := _) (v := ?_) rfl (by kernel_rfl) (fun _ _ _ h => h) (Or.inl ⟨by rfl, ?_⟩) ?_
      rotate_left
      · (intro W hS; (try dsimp only at hS); clear hS; go_simp; with_reducible rfl)
      try simp only [Act.put, List.getElem_toArray, List.getElem_cons_succ, List.getElem_cons_zero, List.setIfInBounds_toArray, List.set_cons_zero, List.set_cons_succ]
      refine WD_free (i := 1) (oi := _) (v := ?_) rfl (by kernel_rfl) (fun _ _ _ h => h) (Or.inl ⟨by rfl, ?_⟩) ?_
      rotate_left
      · (intro W hS; (try dsimp only at hS); clear hS; go_simp; with_reducible rfl)
      try simp only [Act.put, List.getElem_toArray, List.getElem_cons_succ, List.getElem_cons_zero, List.setIfInBounds_toArray, List.set_cons_zero, List.set_cons_succ]
      refine WD_free (i := 2) (oi := _) (v := ?_) rfl (by kernel_rfl) (fun _ _ _ h => h) (Or.inl ⟨by rfl, ?_⟩) ?_
      rotate_left
      · (intro W hS; (try dsimp only at hS); clear hS; go_simp; with_reducible rfl)
      try simp only [Act.put, List.getElem_toArray, List.getElem_cons_succ, List.getElem_cons_zero, List.setIfInBounds_toArray, List.set_cons_zero, List.set_cons_succ]
      refine WD_free (i := 3) (oi := _) (v := ?_) rfl (by kernel_rfl) (fun _ _ _ h => h) (Or.inl ⟨by rfl, ?_⟩) ?_
      rotate_left
      · (intro W hS; (try dsimp only at hS); clear hS; go_simp; with_reducible rfl)
      try simp only [Act.put, List.getElem_toArray, List.getElem_cons_succ, List.getElem_cons_zero, List.setIfInBounds_toArray, List.set_cons_zero, List.set_cons_succ]
      refine WD_free (i := 4) (oi := _) (v := ?_) rfl (by kernel_rfl) (fun _ _ _ h => h) (Or.inl ⟨by rfl, ?_⟩) ?_
      rotate_left
      · (intro W hS; (try dsimp only at hS); clear hS; go_simp; with_reducible rfl)
      try simp only [Act.put, List.getElem_toArray, List.getElem_cons_succ, List.getElem_cons_zero, List.setIfInBounds_toArray, List.set_cons_zero, List.set_cons_succ]
      refine WD_free (i := 5) (oi := _) (v := ?_) rfl (by kernel_rfl) (fun _ _ _ h => h) (Or.inl ⟨by rfl, ?_⟩) ?_
      rotate_left
      · (intro W hS; (try dsimp only at hS); clear hS; go_simp; with_reducible rfl)
      try simp only [Act.put, List.getElem_toArray, List.getElem_cons_succ, List.getElem_cons_zero, List.setIfInBounds_toArray, List.set_cons_zero, List.set_cons_succ]
      refine WD_free (i := 6) (oi := _) (v := ?_) rfl (by kernel_rfl) (fun _ _ _ h => h) (Or.inl ⟨by rfl, ?_⟩) ?_
      rotate_left
      · (intro W hS; (try dsimp only at hS); clear hS; go_simp; with_reducible rfl)
      try simp only [Act.put, List.getElem_toArray, List.getElem_cons_succ, List.getElem_cons_zero, List.setIfInBounds_toArray, List.set_cons_zero, List.set_cons_succ]
      refine WD_step (i := 7) (o := _) rfl (by kernel_rfl) (fun K hK => ?_)
      refine step_copy_splice rfl (.tmp 41) (.tmp 44) 22 22 rfl 2 hu (by rw [hi]; simp [hz1]) (some ⟨w.heap.size, N, none⟩) (some ⟨w.heap.size, 0, none⟩) (n - N) (n - N) N n rfl rfl w.heap.size N (inV (repL y n N)) 2 HG.out (inV (List.replicate k y)) ?cn ?cp ?cf (inV_one _) w.heap.size w hHeld (Nat.le_refl _) ?_
      case cn => rw [inV_len, List.length_replicate]; exact HKK.out.symm
      case cf => rw [inV_len, inV_len, List.length_replicate, repL_len (by omega)]; omega
      case cp => exact fun _ => ⟨rfl, ⟨w.heap.size, 0, none⟩, rfl, fun j v hj => rep_src (W := wr) HG.out hk3 hj⟩
      intro w4 hg4 hb4
      have hkl : (inV (List.replicate k y)).length = k := by rw [inV_len, List.length_replicate]
      rw [hkl]
      replace hHeld := hb4
      refine hK.out _ _ (fun _ _ => hHeld) ?_
      clear hK K
      try simp only [Act.put, List.getElem_toArray, List.getElem_cons_succ, List.getElem_cons_zero, List.setIfInBounds_toArray, List.set_cons_zero, List.set_cons_succ]
      refine WD_free (i := 8) (oi := _) (v := ?_) rfl (by kernel_rfl) (fun _ _ _ h => h) (Or.inl ⟨by rfl, ?_⟩) ?_
      rotate_left
      · (intro W hS; (try dsimp only at hS); clear hS; go_simp; with_reducible rfl)
      try simp only [Act.put, List.getElem_toArray, List.getElem_cons_succ, List.getElem_cons_zero, List.setIfInBounds_toArray, List.set_cons_zero, List.set_cons_succ]
      refine WD_free (i := 9) (oi := _) (v := ?_) rfl (by kernel_rfl) (fun _ _ _ h => h) (Or.inl ⟨by rfl, ?_⟩) ?_
      rotate_left
      · (intro W hS; (try dsimp only at hS); clear hS; go_simp; with_reducible rfl)
      try simp only [Act.put, List.getElem_toArray, List.getElem_cons_succ, List.getElem_cons_zero, List.setIfInBounds_toArray, List.set_cons_zero, List.set_cons_succ]
      refine WD_done (by kernel_rfl) ?_ _

      have hg5 := hg4.out
      rw [repL_step hk2] at hg5
      have HG5 := Lib.hid hg5
      have HB5 := Lib.hid hHeld
      clear hHeld hg4 hg5 hb4 hkl
      go_wp2
      go_round
      case rel => exact ⟨N + k, by go_num, by omega, hk2, HG5, HB5⟩
      case measure => simp [intOf]; omega
end Go.Proofs.Ytfgmnlphejpcaaa

/- parts.Play. -/
namespace Go.Proofs.Ytfgmnlphejpcaaa
open Go.RowKit Go.Maps
set_option linter.unusedVariables false
set_option linter.unusedSimpArgs false
theorem own_ne {W : World} {b1 b2 n1 n2 s1 s2 : Nat} {e1 e2 : TypeId} {v1 v2 : Value} {xs ys : List Value} (he : e1 ≠ e2) (h1 : W.ownsRow b1 e1 s1 v1 n1 xs) (h2 : W.ownsRow b2 e2 s2 v2 n2 ys) : v1.ownBlock = none ∨ v1.ownBlock ≠ v2.ownBlock := by
  rcases h1.2 with ⟨rfl, _⟩ | ⟨g, cap, cur, rfl, _, hg, _⟩
  · exact .inl rfl
  · right
    rcases h2.2 with ⟨rfl, _⟩ | ⟨g', cap', cur', rfl, _, hg', _⟩
    · simp [Value.ownBlock]
    · simp only [Value.ownBlock]
      intro e
      obtain rfl : g = g' := Option.some.inj e
      rw [hg] at hg'
      injection Option.some.inj hg' with _ h3
      exact he h3
theorem own_grown {W W' : World} {row : Option Nat} {base n s : Nat} {e : TypeId} {v : Value} {xs : List Value} (h : W.ownsRow base e s v n xs) (hg : W.grownBy W' row) (hne : v.ownBlock = none ∨ v.ownBlock ≠ row) : W'.ownsRow base e s v n xs := by
  refine ⟨h.1, ?_⟩
  rcases h.2 with h | ⟨g, cap, cur, rfl, h2, h3, h4⟩
  · exact .inl h
  · refine .inr ⟨g, cap, cur, rfl, h2, (hg.block g (Array.getElem?_eq_some_iff.1 h3).1 ?_).trans h3, h4⟩
    rcases hne with hne | hne
    · simp [Value.ownBlock] at hne
    · simpa [Value.ownBlock] using hne
theorem Crowd.belowB {W W' : World} {cb : Nat} {p : Int} {t n : Nat} {w0 : World} (h : Crowd W cb p t n w0) (hb : Below (cb + 1) W W') : Crowd W' cb p t n w0 := by
  obtain ⟨a, c, R, h1, h2⟩ := h.c3
  have hl : cb < cb + 1 := Nat.lt_succ_self _
  have hle := h.le
  exact ⟨(hb.cell (p := ⟨cb, 0, none⟩) hl).trans h.c0, (hb.cell (p := ⟨cb, 1, none⟩) hl).trans h.c1, (hb.cell (p := ⟨cb, 2, none⟩) hl).trans h.c2, ⟨a, c, R, (hb.cell (p := ⟨cb, 3, none⟩) hl).trans h1, h2⟩, (hb.frozen (p := ⟨cb, 3, none⟩) hl).trans h.fr, h.old.trans (hb.mono (by omega)), h.le⟩
/-- the shares of all values so far -/
structure ShRows (W : World) (base : Nat) (p : Int) (t n : Nat) (cl : List Int) (vs : List Value) : Prop where
  len : vs.length = cl.length
  at' : ∀ i, i < cl.length → ∃ (f : Int → Int) (v : Value), vs[i]? = some v ∧ PF p (t + 1) f ∧ cl[i]? = some (f 0 % p) ∧ W.ownsRow base 2 1 v n (inV (shV f p n))
theorem ShRows.nil (W : World) (base : Nat) (p : Int) (t n : Nat) : ShRows W base p t n [] [] := ⟨rfl, fun i hi => absurd hi (Nat.not_lt_zero _)⟩
theorem ShRows.but {W W' : World} {cb base : Nat} {p : Int} {t n : Nat} {cl : List Int} {vs : List Value} (h : ShRows W base p t n cl vs) (hb : Butc cb W W') (hcb : cb < base) : ShRows W' base p t n cl vs :=
  ⟨h.len, fun i hi => by
    obtain ⟨f, v, h1, h2, h3, h4⟩ := h.at' i hi
    exact ⟨f, v, h1, h2, h3, own_but h4 hb hcb⟩⟩
theorem play_step {W5 W6 w7 : World} {cb : Nat} {p : Int} {t n I : Nat} {w0 : World} {lv v5 : Value} {vs : List Value} {cl : List Int} {f : Int → Int} (hb : Below W5.heap.size W5 W6) (hg : W6.grownBy w7 lv.ownBlock) (ho : W5.ownsRow (cb + 1) 22 1 lv I vs) (hC : Crowd W5 cb p t n w0) (hs : ShRows W5 (cb + 1) p t n cl vs)
    (hv : W5.ownsRow (cb + 1) 2 1 v5 n (inV (shV f p n))) (hf : PF p (t + 1) f) : Crowd w7 cb p t n w0 ∧ ShRows w7 (cb + 1) p t n (cl ++ [f 0 % p]) (vs ++ [v5]) := by
  have hlt := hC.lt
  have hbel : Below (cb + 1) W5 w7 := (hb.mono (by omega)).grown hg (by have := hb.size; omega) (fun k hk => (ho.lt k hk).1)
  have up : ∀ {v : Value} {xs : List Value}, W5.ownsRow (cb + 1) 2 1 v n xs → w7.ownsRow (cb + 1) 2 1 v n xs := fun {v xs} h => by
    have hne := own_ne (by decide) h ho
    exact own_grown (own_keep h hb) hg hne
  refine ⟨hC.belowB hbel, by simp [hs.len], fun i hi => ?_⟩
  by_cases e : i < cl.length
  · obtain ⟨f', v, h1, h2, h3, h4⟩ := hs.at' i e
    exact ⟨f', v, by rw [List.getElem?_append_left (by rw [hs.len]; exact e)]; exact h1, h2, by rw [List.getElem?_append_left e]; exact h3, up h4⟩
  · have e2 : i = cl.length := by simp at hi; omega
    subst e2
    exact ⟨f, v5, by rw [List.getElem?_append_right (by rw [hs.len]; exact Nat.le_refl _), hs.len, Nat.sub_self]; rfl, hf, by rw [List.getElem?_append_right (Nat.le_refl _), Nat.sub_self]; rfl, up hv⟩
theorem rows_info : (Try.prog.info? 22).map (fun i => (i.zero, i.size, i.bytes)) = some (some (.slice none 0 0), 1, 24) := by kernel_rfl
theorem clear_in {p : Int} {ins l : List Int} {A : Nat} {gb gn y : Int} (h : ins[A]? = some y) : clearS p ins l ⟨1, A, gb, gn⟩ = y := by
  unfold clearS
  rw [if_pos rfl]
  show ins.getD A 0 = y
  rw [List.getD_eq_getElem?_getD, h]; rfl
theorem clear_add {p : Int} {ins l : List Int} {A B : Nat} {gn x y : Int} (h1 : l[A]? = some (x % p)) (h2 : l[B]? = some (y % p)) : clearS p ins l ⟨3, A, B, gn⟩ = (x + y) % p := by
  show (l.getD A 0 + l.getD B 0) % p = _
  rw [List.getD_eq_getElem?_getD, List.getD_eq_getElem?_getD, h1, h2]
  show (x % p + y % p) % p = _
  rw [← Int.add_emod]
theorem clear_mul {p : Int} {ins l : List Int} {A B : Nat} {gn x y : Int} (h1 : l[A]? = some (x % p)) (h2 : l[B]? = some (y % p)) : clearS p ins l ⟨4, A, B, gn⟩ = (x * y) % p := by
  show l.getD A 0 * l.getD B 0 % p = _
  rw [List.getD_eq_getElem?_getD, List.getD_eq_getElem?_getD, h1, h2]
  show (x % p) * (y % p) % p = _
  rw [← Int.mul_emod]
set_option maxRecDepth 20000 in
set_option maxHeartbeats 6400000 in
theorem parts_Play (p : Int) (t n : Nat) (a b r : Option Addr) (c d cr : Nat) (gs : List Ga) (ins R : List Int) (w : World) (h1 : RowGa w a gs) (h2 : RowL w b d ins) (h3 : RowL w r cr R) (hG : GoodG p gs ins) (hT : partiesB p t = true) (hR : R.any (badB p) = false) (lR : R.length ≤ 4611686018427387904) (hn : n = 2 * t + 1) :
    Calls Try.prog 32 #[.int .i64 p, .int .i64 t, .slice a gs.length c, .slice b ins.length d, .slice r R.length cr] w fun e w' => (∃ (v : Value) (vs : List Value), e = .returned (.tuple #[v, .int .i64 0]) ∧ w'.ownsRow w.heap.size 22 1 v gs.length vs ∧ ShRows w' w.heap.size p t n (clearTo p ins gs gs.length) vs) ∧ Below w.heap.size w w' := by
  have HW := Lib.hid (parts_wrong p a b c d gs ins w h1 h2 (by have := hG.lg; omega) (by have := hG.li; omega))
  have hpp := primeE_zero hG.pr
  have HG := Lib.hid hG
  have hl1 := hG.lg
  have hl2 := hG.li
  obtain ⟨i0, hi, hz0, hz1, hz2⟩ := info_parts long_info
  obtain ⟨i1, hi1, hy0, hy1, hy2⟩ := info_parts rows_info
  have hu : Try.prog.underlying 22 = some (.slice 2) := by kernel_rfl
  have hu1 : Try.prog.underlying 57 = some (.slice 22) := by kernel_rfl
  have hT2 := hT
  simp only [partiesB, Bool.and_eq_true, decide_eq_true_eq] at hT2
  obtain ⟨⟨_, ht4⟩, hnp0⟩ := hT2
  have ht : t ≤ 4 := by omega
  have hnp : (n : Int) < p := by omega
  have HPa := Lib.hid fun W => parts_parties p t W
  rw [hT] at HPa
  have HOu := Lib.hid fun W (hb : Below w.heap.size w W) => parts_out p r cr R W (h3.below hb (Nat.le_refl _)) lR
  rw [hR] at HOu
  have HR := Lib.hid h1
  have HI2 := Lib.hid h2
  have HR3 := Lib.hid h3
  have hrr : ∀ x ∈ R, 0 ≤ x ∧ x < p := fun x hx => by have := List.any_eq_false.1 hR x hx; simp [badB] at this; omega
  have HRR := Lib.hid hrr
  have hir : ∀ x ∈ ins, 0 ≤ x ∧ x < p := fun x hx => by have := List.any_eq_false.1 hG.rng x hx; simp [badB] at this; omega
  have HIR := Lib.hid hir
  have HSh := Lib.hid fun (y : Int) (cb : Nat) (W : World) (h : Crowd W cb p t n w) (hy : 0 ≤ y ∧ y < p) => crowd_share p y t n cb w W h hG.pr ht hn hnp hy
  have HRp0 := Lib.hid fun (y : Int) (W : World) (g : Nat) (hc : W.cell? ⟨g, 0, none⟩ = some (.int .i64 y)) => slices_Repeat_one y n g W (by omega) hc
  have HMu0 := Lib.hid fun (A B : Int → Int) (cb gA gB cA cB : Nat) (hA : PF p (t + 1) A) (hB : PF p (t + 1) B) (W : World) (h : Crowd W cb p t n w) (h1 : RowL W (some ⟨gA, 0, none⟩) cA (shV A p n)) (h2 : RowL W (some ⟨gB, 0, none⟩) cB (shV B p n)) => crowd_mul p t n cb w W A B _ _ cA cB h hG.pr ht hn hnp hA hB h1 h2
  have hrg : ∀ f : Int → Int, ∀ x ∈ shV f p n, 0 ≤ x ∧ x < p := fun f => shV_rng (by omega)
  have HEa0 := Lib.hid fun (A B : Int → Int) (gA gB cA cB : Nat) (W : World) (h1 : RowL W (some ⟨gA, 0, none⟩) cA (shV A p n)) (h2 : RowL W (some ⟨gB, 0, none⟩) cB (shV B p n)) => parts_each (fun x y => x + y) 63 #[] (enters_of Try.func63 (by kernel_rfl) rfl) p _ _ cA cB (shV A p n) (shV B p n) W (n := n) h1 h2 (shV_len _ _ _) (shV_len _ _ _) (by omega) (by omega)
    (fun W' x y _ hx hy => by
      have q1 := hrg A x hx
      have q2 := hrg B y hy
      have q3 := hpp.2.1
      exact ⟨by show 0 ≤ x + y; omega, by show x + y ≤ _; omega, play1_c x y W' (by omega) (by omega)⟩)
  have HCo := Lib.hid fun (c : Int) (h : 0 ≤ c ∧ c < p) => sh_const (p := p) h n
  have f1 : IntKind.i64.wrap (2 * (t : Int)) = 2 * (t : Int) := IntWalk.i64_in _ (by omega)
  have f2 : IntKind.i64.wrap (2 * (t : Int) + 1) = (n : Int) := (IntWalk.i64_in _ (by omega)).trans (by omega)
  have f3 : wrap64 (2 * (t : Int)) = 2 * (t : Int) := by unfold wrap64; omega
  have f4 : wrap64 (2 * (t : Int) + 1) = (n : Int) := by unfold wrap64; omega
  obtain ⟨m, hm⟩ : ∃ m, ins.length = m := ⟨_, rfl⟩
  obtain ⟨N, hN⟩ : ∃ m, gs.length = m := ⟨_, rfl⟩
  obtain ⟨RL, hRL⟩ : ∃ m, R.length = m := ⟨_, rfl⟩
  have HM := Lib.hid hm
  have HN := Lib.hid hN
  have HRL := Lib.hid hRL
  rw [hRL] at HOu
  rw [hm] at HW hl2
  rw [hN] at HW hl1
  rw [hm, hN, hRL]
  have hn1 : 0 < n := by omega
  have hn9 : n ≤ 9 := by omega
  have hp1 : 1 ≤ p := by omega
  have hp2 : p ≤ 251 := hpp.2.1
  have HP1 : Hid (PF p 1 = PF p 1) := Lib.hid rfl
  clear h1 h2 h3 hG hm hN hRL hpp hT hR lR hrr hir hrg hn ht4 hnp0
  go_enter Try.func32, Try.ntmps32
  go_wp2_with fail
  refine HW.out.mono ?_
  rintro e w1 ⟨⟨E, rfl, hE⟩, hb1⟩
  have h0 : E = 0 := hE.2 HG.out
  subst h0
  clear hE
  go_wp2_with fail
  refine (HPa.out _).mono ?_
  rintro e w2 ⟨rfl, rfl⟩
  go_wp2_with fail
  refine (HOu.out _ hb1).mono ?_
  rintro e w3 ⟨rfl, hb3⟩
  have hb4 := below_two hb1 hb3
  obtain ⟨W1, hW1⟩ : ∃ W, w3.alloc (.cells #[.int .i64 p, .int .i64 t, .int .i64 n, .slice r RL cr] 85) = W := ⟨_, rfl⟩
  obtain ⟨cb, hcb⟩ : ∃ b, w3.heap.size = b := ⟨_, rfl⟩
  have z4 := hb4.size
  have HC1 : Hid (Crowd W1 cb p t n w) := Lib.hid (by
    rw [← hW1, ← hcb]
    refine ⟨by simp [go_sem], by simp [go_sem], by simp [go_sem], ⟨r, cr, R, by rw [HRL.out]; simp [go_sem], HR3.out, HRR.out⟩, by simp [go_sem], hb4.alloc z4 _, z4⟩)
  rw [hcb] at z4
  clear hb1 hb3 hb4 HW HPa HOu
  go_wp2
  clear hW1 hcb
  go_loopw [14, 43] (fun lv iv wr => ∃ (I : Nat) (vs : List Value), iv = .int .i64 I ∧ I ≤ N ∧ Hid (Crowd wr cb p t n w) ∧ Hid (wr.ownsRow (cb + 1) 22 1 lv I vs) ∧ Hid (ShRows wr (cb + 1) p t n (clearTo p ins gs I) vs)) (fun _ iv _ => N - (intOf iv).toNat)
  case atStart => exact ⟨0, [], rfl, by omega, HC1, Lib.hid (World.ownsRow_nil _ _ _ _), Lib.hid (ShRows.nil _ _ _ _ _)⟩
  case round =>
    clear HC1
    obtain ⟨I, vs, rfl, hI, HC, HO, HS⟩ := hrel
    by_cases hIe : I = N
    · subst hIe
      have hS' : ShRows wr w.heap.size p t n (clearTo p ins gs I) vs := ⟨HS.out.len, fun i hi => by
        obtain ⟨f, v, q1, q2, q3, q4⟩ := HS.out.at' i hi
        exact ⟨f, v, q1, q2, q3, own_lower q4 (by omega)⟩⟩
      have HS' := Lib.hid hS'
      clear hS'
      go_wp2_with fail
      go_ret2
      exact ⟨⟨_, vs, rfl, own_lower HO.out (by omega), HS'.out⟩, HC.out.old⟩
    · have hI2 : (I : Int) < N := by omega
      have hI3 : I < N := by omega
      obtain ⟨g, hg⟩ : ∃ g, gs[I]? = some g := ⟨_, List.getElem?_eq_getElem (by rw [HN.out]; exact hI3)⟩
      obtain ⟨bb, o, rfl, hcell⟩ := HR.out.shape (by rw [HN.out]; omega)
      obtain ⟨q0, q1, q2, q3⟩ := hcell I g hg
      have zb : bb < w.heap.size := World.block_lt_of_cell? _ _ q0
      have k0 := kept HC.out.old q0 zb
      have k1 := kept HC.out.old q1 zb
      have k2 := kept HC.out.old q2 zb
      have k3 := kept HC.out.old q3 zb
      have hga := gaE_cases (HG.out.ok I g hg)
      have HST := Lib.hid (clearTo_step (p := p) (ins := ins) hg)
      have hLl : (clearTo p ins gs I).length = I := clearTo_len (by rw [HN.out]; omega)
      obtain ⟨cl, hcl⟩ : ∃ l, clearTo p ins gs I = l := ⟨_, rfl⟩
      rw [hcl] at hLl HST HS
      have hvl := HS.out.len
      clear hcell q0 q1 q2 q3 hg hI hcl
      obtain ⟨gk, ga, gbv, gn⟩ := g
      simp only at hga k0 k1 k2 k3
      have hcbl := HC.out.lt
      obtain ⟨Wg, hWg⟩ : ∃ W, wr.alloc (.cells #[.int .i64 gk, .int .i64 ga, .int .i64 gbv, .int .i64 gn] 80) = W := ⟨_, rfl⟩
      obtain ⟨gb, hgb⟩ : ∃ b, wr.heap.size = b := ⟨_, rfl⟩
      have g0 : Wg.cell? ⟨gb, 0, none⟩ = some (.int .i64 gk) := by rw [← hWg, ← hgb]; simp [go_sem]
      have g1 : Wg.cell? ⟨gb, 1, none⟩ = some (.int .i64 ga) := by rw [← hWg, ← hgb]; simp [go_sem]
      have g2 : Wg.cell? ⟨gb, 2, none⟩ = some (.int .i64 gbv) := by rw [← hWg, ← hgb]; simp [go_sem]
      have g3 : Wg.cell? ⟨gb, 3, none⟩ = some (.int .i64 gn) := by rw [← hWg, ← hgb]; simp [go_sem]
      have hbg : Below wr.heap.size wr Wg := hWg ▸ alloc_below wr _
      have HCg := Lib.hid (HC.out.below hbg)
      have HOg := Lib.hid (own_keep HO.out hbg)
      have HSg := Lib.hid (HS.out.but (Butc.below hbg hcbl) (Nat.lt_succ_self _))
      have hgbne : gb ≠ cb := by omega
      have hcbg : cb + 1 ≤ Wg.heap.size := HCg.out.lt
      clear hbg HO HS
      rcases hga with ⟨rfl, a1, a2⟩ | ⟨rfl, n1, n2⟩ | ⟨hk, ⟨a1, a2⟩, b1, b2⟩
      · obtain ⟨A, rfl⟩ := Int.eq_ofNat_of_zero_le a1
        rw [HM.out] at a2
        have a3 : A < m := by omega
        obtain ⟨b', o', rfl, hc⟩ := HI2.out.shape (by rw [HM.out]; omega)
        obtain ⟨y, hy⟩ : ∃ y, ins[A]? = some y := ⟨_, List.getElem?_eq_getElem (by rw [HM.out]; exact a3)⟩
        have r0 := hc A y hy
        have zr : b' < w.heap.size := World.block_lt_of_cell? _ _ r0
        have kr := kept HCg.out.old r0 zr
        have hyr := HIR.out y (List.mem_of_getElem? hy)
        have HSh1 := Lib.hid fun W (h : Crowd W cb p t n w) => HSh.out y cb W h hyr
        have HST1 : Hid (clearTo p ins gs (I + 1) = cl ++ [y]) := Lib.hid (by rw [HST.out, clear_in hy])
        clear hc hy r0 HST hyr zr
        go_wp2_with (first
          | (go_at_call 60; refine (HSh1.out Wg HCg.out).mono ?_; rintro e W5 ⟨⟨f, v5, rfl, hf1, hf2, hown8⟩, hC5, hB5⟩; obtain ⟨g5, c5, rfl, hg5, _, _, _⟩ := own_shape hown8 hn1; have hown5 := own_but HOg.out hB5 (by omega); have hz5 := hC5.lt)
          | (at_builtin; refine wpList_append_own _ rfl _ _ 57 rfl (cb + 1) 22 i1 (.slice none 0 0) 1 24 hu1 hi1 hy0 hy1 hy2 rfl (by decide) _ _ _ rfl (hown5.alloc _) ⟨W5.heap.size, 0, none⟩ 1 1 [.slice (some ⟨g5, 0, none⟩) n c5] rfl rfl (cell_newL _ _ _ rfl) (by simp [Value.oneCell']) (by unfold maxLen; omega) (by omega) (by simp; omega) ?_; intro v' w7 hown' hg2 hnil2))
        obtain ⟨hC7, hS7⟩ := play_step (alloc_below W5 _) hg2 hown5 hC5 (HSg.out.but hB5 (Nat.lt_succ_self _)) (own_lower hown8 (by omega)) hf1
        rw [hf2, ← HST1.out] at hS7
        go_round
        case rel => exact ⟨I + 1, _, by go_num, by omega, Lib.hid hC7, Lib.hid hown', Lib.hid hS7⟩
        case measure => simp [intOf]; omega
      · have HRp := Lib.hid fun W g (hc : W.cell? ⟨g, 0, none⟩ = some (.int .i64 gn)) => HRp0.out gn W g hc
        have HST1 : Hid (clearTo p ins gs (I + 1) = cl ++ [gn % p]) := Lib.hid (by rw [HST.out, Int.emod_eq_of_lt n1 n2]; rfl)
        have hco := HCo.out gn ⟨n1, n2⟩
        have HCC := Lib.hid hco
        clear HST hco
        go_wp2_with fail
        try rw [hWg]
        clear hWg hgb
        refine wp_region_D (S := (fun W : World => Crowd W cb p t n w ∧ Butc cb Wg W)) (fun j => j != 10) (by kernel_rfl) ⟨HCg.out.drew, Butc.drew _ _⟩ (fun hHeld => ?_)
        simp only [List.size_toArray, List.length_cons, List.length_nil, Nat.reduceAdd, Array.replicate_succ, Array.replicate_zero, List.push_toArray, List.append_toArray, List.nil_append, List.cons_append]
        refine WD_free (i := 0) (oi := _) (v := ?_) rfl (by kernel_rfl) (fun _ _ _ h => h) (Or.inl ⟨by rfl, ?_⟩) ?_
        rotate_left
        · (intro W hS; (try dsimp only at hS); clear hS; go_simp; with_reducible rfl)
        try simp only [Act.put, List.getElem_toArray, List.getElem_cons_succ, List.getElem_cons_zero, List.setIfInBounds_toArray, List.set_cons_zero, List.set_cons_succ]
        refine WD_free (i := 1) (oi := _) (v := ?_) rfl (by kernel_rfl) (fun _ _ _ h => h) (Or.inl ⟨by rfl, ?_⟩) ?_
        rotate_left
        · (intro W hS; (try dsimp only at hS); clear hS; go_simp; with_reducible rfl)
        try simp only [Act.put, List.getElem_toArray, List.getElem_cons_succ, List.getElem_cons_zero, List.setIfInBounds_toArray, List.set_cons_zero, List.set_cons_succ]
        refine WD_take (i := 2) (oi := _) (v := ?_) rfl (by kernel_rfl) (fun _ _ _ h => h) (Or.inl ⟨by rfl, ?_⟩) (by assumption) ?_
        rotate_left
        · (intro W hS; (try dsimp only at hS); have kk := hS.2.cell (b := gb) (o := 3) hgbne g3; clear hS; go_simp; with_reducible rfl)
        try simp only [Act.put, List.getElem_toArray, List.getElem_cons_succ, List.getElem_cons_zero, List.setIfInBounds_toArray, List.set_cons_zero, List.set_cons_succ]
        refine WD_free (i := 4) (oi := _) (v := ?_) rfl (by kernel_rfl) (fun _ _ _ h => h) (Or.inl ⟨by rfl, ?_⟩) ?_
        rotate_left
        · (intro W hS; (try dsimp only at hS); clear hS; go_simp; with_reducible rfl)
        try simp only [Act.put, List.getElem_toArray, List.getElem_cons_succ, List.getElem_cons_zero, List.setIfInBounds_toArray, List.set_cons_zero, List.set_cons_succ]
        refine WD_free (i := 5) (oi := _) (v := ?_) rfl (by kernel_rfl) (fun _ _ _ h => h) (Or.inl ⟨by rfl, ?_⟩) ?_
        rotate_left
        · (intro W hS; (try dsimp only at hS); clear hS; go_simp; with_reducible rfl)
        try simp only [Act.put, List.getElem_toArray, List.getElem_cons_succ, List.getElem_cons_zero, List.setIfInBounds_toArray, List.set_cons_zero, List.set_cons_succ]
        refine WD_free (i := 6) (oi := _) (v := ?_) rfl (by kernel_rfl) (fun _ _ _ h => h) (Or.inl ⟨by rfl, ?_⟩) ?_
        rotate_left
        · (intro W hS; (try dsimp only at hS); clear hS; go_simp; with_reducible rfl)
        try simp only [Act.put, List.getElem_toArray, List.getElem_cons_succ, List.getElem_cons_zero, List.setIfInBounds_toArray, List.set_cons_zero, List.set_cons_succ]
        refine WD_take (i := 7) (oi := _) (v := ?_) rfl (by kernel_rfl) (fun _ _ _ h => h) (Or.inl ⟨by rfl, ?_⟩) (by assumption) ?_
        rotate_left
        · (intro W hS; (try dsimp only at hS); have kk := hS.1.c2; clear hS; go_simp; with_reducible rfl)
        try simp only [Act.put, List.getElem_toArray, List.getElem_cons_succ, List.getElem_cons_zero, List.setIfInBounds_toArray, List.set_cons_zero, List.set_cons_succ]
        refine WD_step (i := 3) (o := _) rfl (by kernel_rfl) (fun K hK => ?_)
        go_simp
        replace hHeld : Crowd (Wg.drew.alloc (.cells #[.int .i64 gn] 2)) cb p t n w ∧ Butc cb Wg (Wg.drew.alloc (.cells #[.int .i64 gn] 2)) := ⟨hHeld.1.below (alloc_below _ _), hHeld.2.trans (Butc.below (alloc_below _ _) hHeld.1.lt)⟩
        refine hK.out _ _ (fun _ _ => hHeld) ?_
        clear hK K
        try simp only [Act.put, List.getElem_toArray, List.getElem_cons_succ, List.getElem_cons_zero, List.setIfInBounds_toArray, List.set_cons_zero, List.set_cons_succ]
        refine WD_step (i := 8) (o := _) rfl (by kernel_rfl) (fun K hK => ?_)
        go_simp
        refine (HRp.out _ _ (by simp [go_sem])).mono ?_
        rintro e W5 ⟨⟨v5, rfl, hown8⟩, hb8⟩
        obtain ⟨g5, c5, rfl, hg5, _, _, _⟩ := own_shape hown8 hn1
        go_wp2_with fail
        replace hHeld := (⟨hHeld.1.below hb8, hHeld.2.trans (Butc.below hb8 hHeld.1.lt)⟩ : Crowd W5 cb p t n w ∧ Butc cb Wg W5)
        refine hK.out _ _ (fun _ _ => hHeld) ?_
        clear hK K
        try simp only [Act.put, List.getElem_toArray, List.getElem_cons_succ, List.getElem_cons_zero, List.setIfInBounds_toArray, List.set_cons_zero, List.set_cons_succ]
        have hown5 := own_but HOg.out hHeld.2 (by omega)
        have hC5 := hHeld.1
        have hB5 := hHeld.2
        refine WD_step (i := 9) (o := _) rfl (by kernel_rfl) (fun K hK => ?_)
        go_simp
        refine hK.out _ _ (fun _ _ => ⟨hHeld.1.below (alloc_below _ _), hHeld.2.trans (Butc.below (alloc_below _ _) hHeld.1.lt)⟩) ?_
        clear hK K
        try simp only [Act.put, List.getElem_toArray, List.getElem_cons_succ, List.getElem_cons_zero, List.setIfInBounds_toArray, List.set_cons_zero, List.set_cons_succ]
        refine WD_step (i := 10) (o := _) rfl (by kernel_rfl) (fun K hK => ?_)
        refine step_append_own rfl (.tmp 63) (.tmp 72) 57 rfl (cb + 1) 22 i1 (.slice none 0 0) 1 24 hu1 hi1 hy0 hy1 hy2 rfl (by decide) _ _ _ rfl (hown5.alloc _) ⟨W5.heap.size, 0, none⟩ 1 1 [Value.slice (some ⟨g5, 0, none⟩) n c5] rfl rfl (fun j u hj => cell_newL W5 (Value.slice (some ⟨g5, 0, none⟩) n c5) 22 rfl j u hj) (by simp [Value.oneCell']) (by unfold maxLen; omega) (by omega) (by have := hC5.lt; simp; omega) ?_
        intro v' w7 hown' hg2
        refine hK.out _ _ (fun h => by cases h) ?_
        clear hK K
        try simp only [Act.put, List.getElem_toArray, List.getElem_cons_succ, List.getElem_cons_zero, List.setIfInBounds_toArray, List.set_cons_zero, List.set_cons_succ]
        refine WD_free (i := 11) (oi := _) (v := ?_) rfl (by kernel_rfl) (fun _ _ _ h => h) (Or.inl ⟨by rfl, ?_⟩) ?_
        rotate_left
        · (intro W hS; (try dsimp only at hS); clear hS; go_simp; with_reducible rfl)
        try simp only [Act.put, List.getElem_toArray, List.getElem_cons_succ, List.getElem_cons_zero, List.setIfInBounds_toArray, List.set_cons_zero, List.set_cons_succ]
        refine WD_done (by kernel_rfl) ?_ _

        rw [← HCC.out] at hown8
        obtain ⟨hC7, hS7⟩ := play_step (alloc_below W5 _) hg2 hown5 hC5 (HSg.out.but hB5 (Nat.lt_succ_self _)) (own_lower hown8 (by simp; omega)) ((PF.const hp1 gn).mono (by omega))
        rw [← HST1.out] at hS7
        have HR7 := Lib.hid hown'
        clear hown' hg2 hown8 hown5 hHeld
        go_wp2_with fail
        go_round
        case rel => exact ⟨I + 1, _, by go_num, by omega, Lib.hid hC7, HR7, Lib.hid hS7⟩
        case measure => simp [intOf]; omega
      · obtain ⟨A, rfl⟩ := Int.eq_ofNat_of_zero_le a1
        obtain ⟨B, rfl⟩ := Int.eq_ofNat_of_zero_le b1
        have a3 : A < I := by omega
        have b3 : B < I := by omega
        obtain ⟨fA, vA, ha1, ha2, ha3, ha4⟩ := HSg.out.at' A (by omega)
        obtain ⟨fB, vB, hb1, hb2, hb3, hb4⟩ := HSg.out.at' B (by omega)
        obtain ⟨gA, cA, rfl, hgA, _, _, _⟩ := own_shape ha4 hn1
        obtain ⟨gB, cB, rfl, hgB, _, _, _⟩ := own_shape hb4 hn1
        obtain ⟨go, co, rfl, hgo, _, _, _⟩ := own_shape HOg.out (by omega)
        have kA := own_cell HOg.out ha1
        have kB := own_cell HOg.out hb1
        have hgone : go ≠ cb := by omega
        have HoA := Lib.hid ha4
        have HoB := Lib.hid hb4
        rcases hk with rfl | rfl
        · have HST1 : Hid (clearTo p ins gs (I + 1) = cl ++ [(fun x => fA x + fB x) 0 % p]) := Lib.hid (by rw [HST.out, clear_add ha3 hb3])
          have HEa := Lib.hid (HEa0.out fA fB gA gB cA cB)
          have HPF := Lib.hid (ha2.add hp1 hb2)
          clear HST ha1 ha2 ha3 ha4 hb1 hb2 hb3 hb4
          go_wp2_with fail
          try rw [hWg]
          clear hWg hgb
          refine wp_region_D (S := (fun W : World => Crowd W cb p t n w ∧ Butc cb Wg W)) (fun j => j != 14) (by kernel_rfl) ⟨HCg.out.drew, Butc.drew _ _⟩ (fun hHeld => ?_)
          simp only [List.size_toArray, List.length_cons, List.length_nil, Nat.reduceAdd, Array.replicate_succ, Array.replicate_zero, List.push_toArray, List.append_toArray, List.nil_append, List.cons_append]
          refine WD_free (i := 0) (oi := _) (v := ?_) rfl (by kernel_rfl) (fun _ _ _ h => h) (Or.inl ⟨by rfl, ?_⟩) ?_
          rotate_left
          · (intro W hS; (try dsimp only at hS); clear hS; go_simp; with_reducible rfl)
          try simp only [Act.put, List.getElem_toArray, List.getElem_cons_succ, List.getElem_cons_zero, List.setIfInBounds_toArray, List.set_cons_zero, List.set_cons_succ]
          refine WD_free (i := 1) (oi := _) (v := ?_) rfl (by kernel_rfl) (fun _ _ _ h => h) (Or.inl ⟨by rfl, ?_⟩) ?_
          rotate_left
          · (intro W hS; (try dsimp only at hS); clear hS; go_simp; with_reducible rfl)
          try simp only [Act.put, List.getElem_toArray, List.getElem_cons_succ, List.getElem_cons_zero, List.setIfInBounds_toArray, List.set_cons_zero, List.set_cons_succ]
          refine WD_free (i := 2) (oi := _) (v := ?_) rfl (by kernel_rfl) (fun _ _ _ h => h) (Or.inl ⟨by rfl, ?_⟩) ?_
          rotate_left
          · (intro W hS; (try dsimp only at hS); clear hS; go_simp; with_reducible rfl)
          try simp only [Act.put, List.getElem_toArray, List.getElem_cons_succ, List.getElem_cons_zero, List.setIfInBounds_toArray, List.set_cons_zero, List.set_cons_succ]
          refine WD_take (i := 3) (oi := _) (v := ?_) rfl (by kernel_rfl) (fun _ _ _ h => h) (Or.inl ⟨by rfl, ?_⟩) (by assumption) ?_
          rotate_left
          · (intro W hS; (try dsimp only at hS); have kk := hS.2.cell (b := gb) (o := 1) hgbne g1; clear hS; go_simp; with_reducible rfl)
          try simp only [Act.put, List.getElem_toArray, List.getElem_cons_succ, List.getElem_cons_zero, List.setIfInBounds_toArray, List.set_cons_zero, List.set_cons_succ]
          refine WD_free (i := 4) (oi := _) (v := ?_) rfl (by kernel_rfl) (fun _ _ _ h => h) (Or.inl ⟨by rfl, ?_⟩) ?_
          rotate_left
          · (intro W hS; (try dsimp only at hS); clear hS; go_simp; with_reducible rfl)
          try simp only [Act.put, List.getElem_toArray, List.getElem_cons_succ, List.getElem_cons_zero, List.setIfInBounds_toArray, List.set_cons_zero, List.set_cons_succ]
          refine WD_take (i := 5) (oi := _) (v := ?_) rfl (by kernel_rfl) (fun _ _ _ h => h) (Or.inl ⟨by rfl, ?_⟩) (by assumption) ?_
          rotate_left
          · (intro W hS; (try dsimp only at hS); have kk := hS.2.cell (b := go) (o := A) hgone kA; clear hS; go_simp; with_reducible rfl)
          try simp only [Act.put, List.getElem_toArray, List.getElem_cons_succ, List.getElem_cons_zero, List.setIfInBounds_toArray, List.set_cons_zero, List.set_cons_succ]
          refine WD_free (i := 6) (oi := _) (v := ?_) rfl (by kernel_rfl) (fun _ _ _ h => h) (Or.inl ⟨by rfl, ?_⟩) ?_
          rotate_left
          · (intro W hS; (try dsimp only at hS); clear hS; go_simp; with_reducible rfl)
          try simp only [Act.put, List.getElem_toArray, List.getElem_cons_succ, List.getElem_cons_zero, List.setIfInBounds_toArray, List.set_cons_zero, List.set_cons_succ]
          refine WD_free (i := 7) (oi := _) (v := ?_) rfl (by kernel_rfl) (fun _ _ _ h => h) (Or.inl ⟨by rfl, ?_⟩) ?_
          rotate_left
          · (intro W hS; (try dsimp only at hS); clear hS; go_simp; with_reducible rfl)
          try simp only [Act.put, List.getElem_toArray, List.getElem_cons_succ, List.getElem_cons_zero, List.setIfInBounds_toArray, List.set_cons_zero, List.set_cons_succ]
          refine WD_take (i := 8) (oi := _) (v := ?_) rfl (by kernel_rfl) (fun _ _ _ h => h) (Or.inl ⟨by rfl, ?_⟩) (by assumption) ?_
          rotate_left
          · (intro W hS; (try dsimp only at hS); have kk := hS.2.cell (b := gb) (o := 2) hgbne g2; clear hS; go_simp; with_reducible rfl)
          try simp only [Act.put, List.getElem_toArray, List.getElem_cons_succ, List.getElem_cons_zero, List.setIfInBounds_toArray, List.set_cons_zero, List.set_cons_succ]
          refine WD_free (i := 9) (oi := _) (v := ?_) rfl (by kernel_rfl) (fun _ _ _ h => h) (Or.inl ⟨by rfl, ?_⟩) ?_
          rotate_left
          · (intro W hS; (try dsimp only at hS); clear hS; go_simp; with_reducible rfl)
          try simp only [Act.put, List.getElem_toArray, List.getElem_cons_succ, List.getElem_cons_zero, List.setIfInBounds_toArray, List.set_cons_zero, List.set_cons_succ]
          refine WD_take (i := 10) (oi := _) (v := ?_) rfl (by kernel_rfl) (fun _ _ _ h => h) (Or.inl ⟨by rfl, ?_⟩) (by assumption) ?_
          rotate_left
          · (intro W hS; (try dsimp only at hS); have kk := hS.2.cell (b := go) (o := B) hgone kB; clear hS; go_simp; with_reducible rfl)
          try simp only [Act.put, List.getElem_toArray, List.getElem_cons_succ, List.getElem_cons_zero, List.setIfInBounds_toArray, List.set_cons_zero, List.set_cons_succ]
          refine WD_free (i := 11) (oi := _) (v := ?_) rfl (by kernel_rfl) (fun _ _ _ h => h) (Or.inl ⟨by rfl, ?_⟩) ?_
          rotate_left
          · (intro W hS; (try dsimp only at hS); clear hS; go_simp; with_reducible rfl)
          try simp only [Act.put, List.getElem_toArray, List.getElem_cons_succ, List.getElem_cons_zero, List.setIfInBounds_toArray, List.set_cons_zero, List.set_cons_succ]
          refine WD_step (i := 12) (o := _) rfl (by kernel_rfl) (fun K hK => ?_)
          go_simp
          refine (HEa.out _ (row_ownL (own_but HoA.out hHeld.2 (by omega))) (row_ownL (own_but HoB.out hHeld.2 (by omega)))).mono ?_
          rintro e W5 ⟨⟨v5, rfl, hown8⟩, hb8⟩
          rw [sh_add] at hown8
          obtain ⟨g5, c5, rfl, hg5, _, _, _⟩ := own_shape hown8 hn1
          go_wp2_with fail
          replace hHeld := (⟨hHeld.1.below hb8, hHeld.2.trans (Butc.below hb8 hHeld.1.lt)⟩ : Crowd W5 cb p t n w ∧ Butc cb Wg W5)
          refine hK.out _ _ (fun _ _ => hHeld) ?_
          clear hK K
          try simp only [Act.put, List.getElem_toArray, List.getElem_cons_succ, List.getElem_cons_zero, List.setIfInBounds_toArray, List.set_cons_zero, List.set_cons_succ]
          have hown5 := own_but HOg.out hHeld.2 (by omega)
          have hC5 := hHeld.1
          have hB5 := hHeld.2
          refine WD_step (i := 13) (o := _) rfl (by kernel_rfl) (fun K hK => ?_)
          go_simp
          refine hK.out _ _ (fun _ _ => ⟨hHeld.1.below (alloc_below _ _), hHeld.2.trans (Butc.below (alloc_below _ _) hHeld.1.lt)⟩) ?_
          clear hK K
          try simp only [Act.put, List.getElem_toArray, List.getElem_cons_succ, List.getElem_cons_zero, List.setIfInBounds_toArray, List.set_cons_zero, List.set_cons_succ]
          refine WD_step (i := 14) (o := _) rfl (by kernel_rfl) (fun K hK => ?_)
          refine step_append_own rfl (.tmp 76) (.tmp 89) 57 rfl (cb + 1) 22 i1 (.slice none 0 0) 1 24 hu1 hi1 hy0 hy1 hy2 rfl (by decide) _ _ _ rfl (hown5.alloc _) ⟨W5.heap.size, 0, none⟩ 1 1 [Value.slice (some ⟨g5, 0, none⟩) n c5] rfl rfl (fun j u hj => cell_newL W5 (Value.slice (some ⟨g5, 0, none⟩) n c5) 22 rfl j u hj) (by simp [Value.oneCell']) (by unfold maxLen; omega) (by omega) (by have := hC5.lt; simp; omega) ?_
          intro v' w7 hown' hg2
          refine hK.out _ _ (fun h => by cases h) ?_
          clear hK K
          try simp only [Act.put, List.getElem_toArray, List.getElem_cons_succ, List.getElem_cons_zero, List.setIfInBounds_toArray, List.set_cons_zero, List.set_cons_succ]
          refine WD_free (i := 15) (oi := _) (v := ?_) rfl (by kernel_rfl) (fun _ _ _ h => h) (Or.inl ⟨by rfl, ?_⟩) ?_
          rotate_left
          · (intro W hS; (try dsimp only at hS); clear hS; go_simp; with_reducible rfl)
          try simp only [Act.put, List.getElem_toArray, List.getElem_cons_succ, List.getElem_cons_zero, List.setIfInBounds_toArray, List.set_cons_zero, List.set_cons_succ]
          refine WD_done (by kernel_rfl) ?_ _

          obtain ⟨hC7, hS7⟩ := play_step (alloc_below W5 _) hg2 hown5 hC5 (HSg.out.but hB5 (Nat.lt_succ_self _)) (own_lower hown8 (by simp; omega)) HPF.out
          rw [← HST1.out] at hS7
          have HR7 := Lib.hid hown'
          clear hown' hg2 hown8 hown5 hHeld
          go_wp2_with fail
          go_round
          case rel => exact ⟨I + 1, _, by go_num, by omega, Lib.hid hC7, HR7, Lib.hid hS7⟩
          case measure => simp [intOf]; omega
        · have HST1 : Hid (clearTo p ins gs (I + 1) = cl ++ [fA 0 * fB 0 % p]) := Lib.hid (by rw [HST.out, clear_mul ha3 hb3])
          have HMu := Lib.hid (HMu0.out fA fB cb gA gB cA cB ha2 hb2)
          clear HST ha1 ha2 ha3 ha4 hb1 hb2 hb3 hb4
          go_wp2_with fail
          try rw [hWg]
          clear hWg hgb
          refine wp_region_D (S := (fun W : World => Crowd W cb p t n w ∧ Butc cb Wg W)) (fun j => j != 14) (by kernel_rfl) ⟨HCg.out.drew, Butc.drew _ _⟩ (fun hHeld => ?_)
          simp only [List.size_toArray, List.length_cons, List.length_nil, Nat.reduceAdd, Array.replicate_succ, Array.replicate_zero, List.push_toArray, List.append_toArray, List.nil_append, List.cons_append]
          refine WD_free (i := 0) (oi := _) (v := ?_) rfl (by kernel_rfl) (fun _ _ _ h => h) (Or.inl ⟨by rfl, ?_⟩) ?_
          rotate_left
          · (intro W hS; (try dsimp only at hS); clear hS; go_simp; with_reducible rfl)
          try simp only [Act.put, List.getElem_toArray, List.getElem_cons_succ, List.getElem_cons_zero, List.setIfInBounds_toArray, List.set_cons_zero, List.set_cons_succ]
          refine WD_free (i := 1) (oi := _) (v := ?_) rfl (by kernel_rfl) (fun _ _ _ h => h) (Or.inl ⟨by rfl, ?_⟩) ?_
          rotate_left
          · (intro W hS; (try dsimp only at hS); clear hS; go_simp; with_reducible rfl)
          try simp only [Act.put, List.getElem_toArray, List.getElem_cons_succ, List.getElem_cons_zero, List.setIfInBounds_toArray, List.set_cons_zero, List.set_cons_succ]
          refine WD_free (i := 2) (oi := _) (v := ?_) rfl (by kernel_rfl) (fun _ _ _ h => h) (Or.inl ⟨by rfl, ?_⟩) ?_
          rotate_left
          · (intro W hS; (try dsimp only at hS); clear hS; go_simp; with_reducible rfl)
          try simp only [Act.put, List.getElem_toArray, List.getElem_cons_succ, List.getElem_cons_zero, List.setIfInBounds_toArray, List.set_cons_zero, List.set_cons_succ]
          refine WD_free (i := 3) (oi := _) (v := ?_) rfl (by kernel_rfl) (fun _ _ _ h => h) (Or.inl ⟨by rfl, ?_⟩) ?_
          rotate_left
          · (intro W hS; (try dsimp only at hS); clear hS; go_simp; with_reducible rfl)
          try simp only [Act.put, List.getElem_toArray, List.getElem_cons_succ, List.getElem_cons_zero, List.setIfInBounds_toArray, List.set_cons_zero, List.set_cons_succ]
          refine WD_take (i := 4) (oi := _) (v := ?_) rfl (by kernel_rfl) (fun _ _ _ h => h) (Or.inl ⟨by rfl, ?_⟩) (by assumption) ?_
          rotate_left
          · (intro W hS; (try dsimp only at hS); have kk := hS.2.cell (b := gb) (o := 1) hgbne g1; clear hS; go_simp; with_reducible rfl)
          try simp only [Act.put, List.getElem_toArray, List.getElem_cons_succ, List.getElem_cons_zero, List.setIfInBounds_toArray, List.set_cons_zero, List.set_cons_succ]
          refine WD_free (i := 5) (oi := _) (v := ?_) rfl (by kernel_rfl) (fun _ _ _ h => h) (Or.inl ⟨by rfl, ?_⟩) ?_
          rotate_left
          · (intro W hS; (try dsimp only at hS); clear hS; go_simp; with_reducible rfl)
          try simp only [Act.put, List.getElem_toArray, List.getElem_cons_succ, List.getElem_cons_zero, List.setIfInBounds_toArray, List.set_cons_zero, List.set_cons_succ]
          refine WD_take (i := 6) (oi := _) (v := ?_) rfl (by kernel_rfl) (fun _ _ _ h => h) (Or.inl ⟨by rfl, ?_⟩) (by assumption) ?_
          rotate_left
          · (intro W hS; (try dsimp only at hS); have kk := hS.2.cell (b := go) (o := A) hgone kA; clear hS; go_simp; with_reducible rfl)
          try simp only [Act.put, List.getElem_toArray, List.getElem_cons_succ, List.getElem_cons_zero, List.setIfInBounds_toArray, List.set_cons_zero, List.set_cons_succ]
          refine WD_free (i := 7) (oi := _) (v := ?_) rfl (by kernel_rfl) (fun _ _ _ h => h) (Or.inl ⟨by rfl, ?_⟩) ?_
          rotate_left
          · (intro W hS; (try dsimp only at hS); clear hS; go_simp; with_reducible rfl)
          try simp only [Act.put, List.getElem_toArray, List.getElem_cons_succ, List.getElem_cons_zero, List.setIfInBounds_toArray, List.set_cons_zero, List.set_cons_succ]
          refine WD_free (i := 8) (oi := _) (v := ?_) rfl (by kernel_rfl) (fun _ _ _ h => h) (Or.inl ⟨by rfl, ?_⟩) ?_
          rotate_left
          · (intro W hS; (try dsimp only at hS); clear hS; go_simp; with_reducible rfl)
          try simp only [Act.put, List.getElem_toArray, List.getElem_cons_succ, List.getElem_cons_zero, List.setIfInBounds_toArray, List.set_cons_zero, List.set_cons_succ]
          refine WD_take (i := 9) (oi := _) (v := ?_) rfl (by kernel_rfl) (fun _ _ _ h => h) (Or.inl ⟨by rfl, ?_⟩) (by assumption) ?_
          rotate_left
          · (intro W hS; (try dsimp only at hS); have kk := hS.2.cell (b := gb) (o := 2) hgbne g2; clear hS; go_simp; with_reducible rfl)
          try simp only [Act.put, List.getElem_toArray, List.getElem_cons_succ, List.getElem_cons_zero, List.setIfInBounds_toArray, List.set_cons_zero, List.set_cons_succ]
          refine WD_free (i := 10) (oi := _) (v := ?_) rfl (by kernel_rfl) (fun _ _ _ h => h) (Or.inl ⟨by rfl, ?_⟩) ?_
          rotate_left
          · (intro W hS; (try dsimp only at hS); clear hS; go_simp; with_reducible rfl)
          try simp only [Act.put, List.getElem_toArray, List.getElem_cons_succ, List.getElem_cons_zero, List.setIfInBounds_toArray, List.set_cons_zero, List.set_cons_succ]
          refine WD_take (i := 11) (oi := _) (v := ?_) rfl (by kernel_rfl) (fun _ _ _ h => h) (Or.inl ⟨by rfl, ?_⟩) (by assumption) ?_
          rotate_left
          · (intro W hS; (try dsimp only at hS); have kk := hS.2.cell (b := go) (o := B) hgone kB; clear hS; go_simp; with_reducible rfl)
          try simp only [Act.put, List.getElem_toArray, List.getElem_cons_succ, List.getElem_cons_zero, List.setIfInBounds_toArray, List.set_cons_zero, List.set_cons_succ]
          refine WD_step (i := 12) (o := _) rfl (by kernel_rfl) (fun K hK => ?_)
          go_simp
          refine (HMu.out _ hHeld.1 (row_ownL (own_but HoA.out hHeld.2 (by omega))) (row_ownL (own_but HoB.out hHeld.2 (by omega)))).mono ?_
          rintro e W5 ⟨⟨f, v5, rfl, hf1, hf2, hown8⟩, hC8, hB8⟩
          obtain ⟨g5, c5, rfl, hg5, _, _, _⟩ := own_shape hown8 hn1
          go_wp2_with fail
          replace hHeld := (⟨hC8, hHeld.2.trans hB8⟩ : Crowd W5 cb p t n w ∧ Butc cb Wg W5)
          refine hK.out _ _ (fun _ _ => hHeld) ?_
          clear hK K
          try simp only [Act.put, List.getElem_toArray, List.getElem_cons_succ, List.getElem_cons_zero, List.setIfInBounds_toArray, List.set_cons_zero, List.set_cons_succ]
          have hown5 := own_but HOg.out hHeld.2 (by omega)
          have hC5 := hHeld.1
          have hB5 := hHeld.2
          refine WD_step (i := 13) (o := _) rfl (by kernel_rfl) (fun K hK => ?_)
          go_simp
          refine hK.out _ _ (fun _ _ => ⟨hHeld.1.below (alloc_below _ _), hHeld.2.trans (Butc.below (alloc_below _ _) hHeld.1.lt)⟩) ?_
          clear hK K
          try simp only [Act.put, List.getElem_toArray, List.getElem_cons_succ, List.getElem_cons_zero, List.setIfInBounds_toArray, List.set_cons_zero, List.set_cons_succ]
          refine WD_step (i := 14) (o := _) rfl (by kernel_rfl) (fun K hK => ?_)
          refine step_append_own rfl (.tmp 93) (.tmp 106) 57 rfl (cb + 1) 22 i1 (.slice none 0 0) 1 24 hu1 hi1 hy0 hy1 hy2 rfl (by decide) _ _ _ rfl (hown5.alloc _) ⟨W5.heap.size, 0, none⟩ 1 1 [Value.slice (some ⟨g5, 0, none⟩) n c5] rfl rfl (fun j u hj => cell_newL W5 (Value.slice (some ⟨g5, 0, none⟩) n c5) 22 rfl j u hj) (by simp [Value.oneCell']) (by unfold maxLen; omega) (by omega) (by have := hC5.lt; simp; omega) ?_
          intro v' w7 hown' hg2
          refine hK.out _ _ (fun h => by cases h) ?_
          clear hK K
          try simp only [Act.put, List.getElem_toArray, List.getElem_cons_succ, List.getElem_cons_zero, List.setIfInBounds_toArray, List.set_cons_zero, List.set_cons_succ]
          refine WD_free (i := 15) (oi := _) (v := ?_) rfl (by kernel_rfl) (fun _ _ _ h => h) (Or.inl ⟨by rfl, ?_⟩) ?_
          rotate_left
          · (intro W hS; (try dsimp only at hS); clear hS; go_simp; with_reducible rfl)
          try simp only [Act.put, List.getElem_toArray, List.getElem_cons_succ, List.getElem_cons_zero, List.setIfInBounds_toArray, List.set_cons_zero, List.set_cons_succ]
          refine WD_done (by kernel_rfl) ?_ _

          obtain ⟨hC7, hS7⟩ := play_step (alloc_below W5 _) hg2 hown5 hC5 (HSg.out.but hB5 (Nat.lt_succ_self _)) (own_lower hown8 (by simp; omega)) hf1
          rw [hf2, ← HST1.out] at hS7
          have HR7 := Lib.hid hown'
          clear hown' hg2 hown8 hown5 hHeld
          go_wp2_with fail
          go_round
          case rel => exact ⟨I + 1, _, by go_num, by omega, Lib.hid hC7, HR7, Lib.hid hS7⟩
          case measure => simp [intOf]; omega
end Go.Proofs.Ytfgmnlphejpcaaa

/- parts.Play where it refuses; rows as slices. -/
namespace Go.Proofs.Ytfgmnlphejpcaaa
open Go.RowKit Go.Maps
set_option linter.unusedVariables false
set_option linter.unusedSimpArgs false
theorem own_any {W : World} {base k : Nat} {v : Value} {e : TypeId} {xs : List Value} (h : W.ownsRow base e 1 v k xs) : ∃ a c, v = .slice a k c ∧ ∀ (i : Nat) (u : Value), xs[i]? = some u → ∃ g, a = some ⟨g, 0, none⟩ ∧ W.cell? ⟨g, i, none⟩ = some u := by
  by_cases hk : 0 < k
  · obtain ⟨g, cap, rfl, _, _, _, _⟩ := own_shape h hk
    exact ⟨_, cap, rfl, fun i u hu => ⟨g, rfl, own_cell h hu⟩⟩
  · obtain rfl : k = 0 := by omega
    have hl := own_len h
    obtain rfl := List.eq_nil_of_length_eq_zero hl
    rcases h.2 with ⟨h1, h2⟩ | ⟨g, cap, cur, h1, _⟩
    · exact ⟨none, 0, h1, fun i u hu => by simp at hu⟩
    · exact ⟨_, cap, h1, fun i u hu => by simp at hu⟩
set_option maxRecDepth 20000 in
set_option maxHeartbeats 6400000 in
theorem parts_Play_bad (p t : Int) (a b r : Option Addr) (c d cr : Nat) (gs : List Ga) (ins R : List Int) (w : World) (h1 : RowGa w a gs) (h2 : RowL w b d ins) (h3 : RowL w r cr R) (l1 : gs.length ≤ 9223372036854775807) (l2 : ins.length ≤ 4611686018427387904) (l3 : R.length ≤ 4611686018427387904) (hb : ¬ (GoodG p gs ins ∧ partiesB p t = true ∧ R.any (badB p) = false)) :
    Calls Try.prog 32 #[.int .i64 p, .int .i64 t, .slice a gs.length c, .slice b ins.length d, .slice r R.length cr] w fun e w' => (∃ E : Int, E ≠ 0 ∧ e = .returned (.tuple #[.slice none 0 0, .int .i64 E])) ∧ Below w.heap.size w w' := by
  have HW := Lib.hid (parts_wrong p a b c d gs ins w h1 h2 l1 l2)
  have HPa := Lib.hid fun W => parts_parties p t W
  have HOu := Lib.hid fun W (hb : Below w.heap.size w W) => parts_out p r cr R W (h3.below hb (Nat.le_refl _)) l3
  have HB := Lib.hid hb
  obtain ⟨m, hm⟩ : ∃ m, ins.length = m := ⟨_, rfl⟩
  obtain ⟨N, hN⟩ : ∃ m, gs.length = m := ⟨_, rfl⟩
  obtain ⟨RL, hRL⟩ : ∃ m, R.length = m := ⟨_, rfl⟩
  rw [hm, hN] at HW
  rw [hRL] at HOu
  rw [hm, hN, hRL]
  obtain ⟨B1, hB1⟩ : ∃ B, partiesB p t = B := ⟨_, rfl⟩
  obtain ⟨B2, hB2⟩ : ∃ B, R.any (badB p) = B := ⟨_, rfl⟩
  rw [hB1] at HPa HB
  rw [hB2] at HOu HB
  by_cases hG : GoodG p gs ins
  · have HG := Lib.hid hG
    have key : B1 = false ∨ (B1 = true ∧ B2 = true) := by
      cases B1 with
      | false => exact .inl rfl
      | true =>
        cases B2 with
        | true => exact .inr ⟨rfl, rfl⟩
        | false => exact absurd ⟨hG, rfl, rfl⟩ HB.out
    clear h1 h2 h3 l1 l2 l3 hb hm hN hRL hB1 hB2 hG HB
    rcases key with rfl | ⟨rfl, rfl⟩
    · go_enter Try.func32, Try.ntmps32
      go_wp2_with fail
      refine HW.out.mono ?_
      rintro e w1 ⟨⟨E, rfl, hE⟩, hb1⟩
      have h0 : E = 0 := hE.2 HG.out
      subst h0
      clear hE
      go_wp2_with fail
      refine (HPa.out _).mono ?_
      rintro e w2 ⟨rfl, rfl⟩
      go_wp2_with fail
      go_ret2
      exact ⟨⟨2, by decide, rfl⟩, hb1⟩
    · go_enter Try.func32, Try.ntmps32
      go_wp2_with fail
      refine HW.out.mono ?_
      rintro e w1 ⟨⟨E, rfl, hE⟩, hb1⟩
      have h0 : E = 0 := hE.2 HG.out
      subst h0
      clear hE
      go_wp2_with fail
      refine (HPa.out _).mono ?_
      rintro e w2 ⟨rfl, rfl⟩
      go_wp2_with fail
      refine (HOu.out _ hb1).mono ?_
      rintro e w3 ⟨rfl, hb3⟩
      have hb4 := below_two hb1 hb3
      go_wp2_with fail
      go_ret2
      exact ⟨⟨2, by decide, rfl⟩, hb4⟩
  · have HG := Lib.hid hG
    clear h1 h2 h3 l1 l2 l3 hb hm hN hRL hB1 hB2 hG HB
    go_enter Try.func32, Try.ntmps32
    go_wp2_with fail
    refine HW.out.mono ?_
    rintro e w1 ⟨⟨E, rfl, hE⟩, hb1⟩
    have h0 : E ≠ 0 := fun e => HG.out (hE.1 e)
    have e1 : (E != 0) = true := by simpa using h0
    have e2 : (E == 0) = false := by simpa using h0
    have HE := Lib.hid h0
    clear hE h0
    go_wp2_with fail
    go_ret2
    exact ⟨⟨E, HE.out, rfl⟩, hb1⟩
end Go.Proofs.Ytfgmnlphejpcaaa

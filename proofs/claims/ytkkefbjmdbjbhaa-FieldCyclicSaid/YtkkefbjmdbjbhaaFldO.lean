/- The contract of field.open. -/
import Derived.Test.YtkkefbjmdbjbhaaFldS
namespace Go.Proofs.Ytkkefbjmdbjbhaa
open Go.RowKit
set_option linter.unusedVariables false
set_option linter.unusedSimpArgs false
open Classical in
/-- what is wrong with a field -/
noncomputable def fldE (p : Int) (f : List Int) : Int :=
  if polyE p f ≠ 0 then polyE p f else if f.length < 2 ∨ f.getLastD 1 ≠ 1 then 3 else if 4096 < p.toNat ^ (f.length - 1) then 1 else if Irr p.toNat f (f.length - 1) then 0 else 4
theorem fldE_a {p : Int} {f : List Int} (h : polyE p f ≠ 0) : fldE p f = polyE p f := by unfold fldE; rw [if_pos h]
theorem fldE_b {p : Int} {f : List Int} (h : polyE p f = 0) (h2 : f.length < 2 ∨ f.getLastD 1 ≠ 1) : fldE p f = 3 := by unfold fldE; rw [if_neg (by simpa using h), if_pos h2]
theorem fldE_c {p : Int} {f : List Int} (h : polyE p f = 0) (h2 : ¬ (f.length < 2 ∨ f.getLastD 1 ≠ 1)) (h3 : 4096 < p.toNat ^ (f.length - 1)) : fldE p f = 1 := by unfold fldE; rw [if_neg (by simpa using h), if_neg h2, if_pos h3]
theorem fldE_d {p : Int} {f : List Int} (h : polyE p f = 0) (h2 : ¬ (f.length < 2 ∨ f.getLastD 1 ≠ 1)) (h3 : ¬ 4096 < p.toNat ^ (f.length - 1)) (h4 : ¬ Irr p.toNat f (f.length - 1)) : fldE p f = 4 := by unfold fldE; rw [if_neg (by simpa using h), if_neg h2, if_neg h3, if_neg h4]
theorem fldE_e {p : Int} {f : List Int} (h : polyE p f = 0) (h2 : ¬ (f.length < 2 ∨ f.getLastD 1 ≠ 1)) (h3 : ¬ 4096 < p.toNat ^ (f.length - 1)) (h4 : Irr p.toNat f (f.length - 1)) : fldE p f = 0 := by unfold fldE; rw [if_neg (by simpa using h), if_neg h2, if_neg h3, if_pos h4]
theorem fld_of {p : Int} {f : List Int} (h : polyE p f = 0) (h2 : ¬ (f.length < 2 ∨ f.getLastD 1 ≠ 1)) (h3 : ¬ 4096 < p.toNat ^ (f.length - 1)) : Fld p.toNat f (f.length - 1) := by
  have g := polyE_zero.1 h
  obtain ⟨p2, p251, pr⟩ := g.prime
  have e : ((p.toNat : Nat) : Int) = p := by omega
  have hl := g.len
  obtain ⟨n, hn⟩ : ∃ n, f.length = n + 1 := ⟨f.length - 1, by omega⟩
  obtain ⟨x, hx⟩ : ∃ x, f[n]? = some x := ⟨_, List.getElem?_eq_getElem (by omega)⟩
  have hx1 := getLastD_at hx hn
  refine ⟨by omega, by omega, by rw [e]; exact pr, ⟨⟨by rw [e]; exact g.rng, g.last⟩, by omega, ?_⟩, by omega, by omega, by omega⟩
  rw [hn, Nat.add_sub_cancel, last_co hn hx]
  omega
theorem fldE_zero {p : Int} {f : List Int} (h : fldE p f = 0) : polyE p f = 0 ∧ 2 ≤ p ∧ p ≤ 251 ∧ Fld p.toNat f (f.length - 1) ∧ Irr p.toNat f (f.length - 1) ∧ 2 ≤ f.length ∧ f.length ≤ 13 := by
  by_cases h1 : polyE p f = 0
  · by_cases h2 : f.length < 2 ∨ f.getLastD 1 ≠ 1
    · rw [fldE_b h1 h2] at h; omega
    · by_cases h3 : 4096 < p.toNat ^ (f.length - 1)
      · rw [fldE_c h1 h2 h3] at h; omega
      · by_cases h4 : Irr p.toNat f (f.length - 1)
        · have g := polyE_zero.1 h1
          obtain ⟨p2, p251, pr⟩ := g.prime
          exact ⟨h1, p2, p251, fld_of h1 h2 h3, h4, by omega, g.len⟩
        · rw [fldE_d h1 h2 h3 h4] at h; omega
  · rw [fldE_a h1] at h; exact absurd h h1
theorem check_w {p : Int} {a : Option Addr} {c L : Nat} {xs : List Int} {w : World} (h : RowL w a c xs) (e : xs.length = L) (hl : L ≤ maxLen) :
    Calls Try.prog 30 #[.int .i64 p, .slice a L c] w fun e w' => e = .returned (.int .i64 (polyE p xs)) ∧ Below w.heap.size w w' := by
  subst e; exact poly_Check p a c xs w h hl
/-- a field that open tells -/
def OpV (p : Int) (f : List Int) (af : Option Addr) (Lf cf : Nat) (E : Int) (fv : Value) : Prop := ∃ (x s : Int) (a : Option Addr) (L c : Nat), fv = .agg #[.int .i64 x, .int .i64 s, .slice a L c] ∧ (E = 0 → x = p ∧ s = ((p.toNat ^ (f.length - 1) : Nat) : Int) ∧ a = af ∧ L = Lf ∧ c = cf)
theorem OpV.none {p : Int} {f : List Int} {af : Option Addr} {Lf cf : Nat} {E : Int} (h : E ≠ 0) : OpV p f af Lf cf E (.agg #[.int .i64 0, .int .i64 0, .slice none 0 0]) := ⟨0, 0, .none, 0, 0, rfl, fun e => absurd e h⟩
theorem froz {W W' : World} (hb : Below W.heap.size W W') {b o : Nat} (h : b < W.heap.size) : W'.frozen? ⟨b, o, none⟩ = W.frozen? ⟨b, o, none⟩ := by
  unfold World.frozen?
  have := hb.block b h
  simp [this]
/-- a box of a field -/
def FB (W : World) (b : Nat) (x s : Int) (a : Option Addr) (L c : Nat) : Prop := (W.cell? ⟨b, 0, none⟩ = some (.int .i64 x) ∧ W.cell? ⟨b, 1, none⟩ = some (.int .i64 s) ∧ W.cell? ⟨b, 2, none⟩ = some (.slice a L c)) ∧ W.frozen? ⟨b, 0, none⟩ = false ∧ W.frozen? ⟨b, 1, none⟩ = false ∧ W.frozen? ⟨b, 2, none⟩ = false
theorem FB.lt {W : World} {b : Nat} {x s : Int} {a : Option Addr} {L c : Nat} (h : FB W b x s a L c) : b < W.heap.size := World.block_lt_of_cell? _ _ h.1.1
theorem FB.below {W W' : World} {b : Nat} {x s : Int} {a : Option Addr} {L c : Nat} (h : FB W b x s a L c) (hb : Below W.heap.size W W') : FB W' b x s a L c :=
  have hl := h.lt
  ⟨⟨kept hb h.1.1 hl, kept hb h.1.2.1 hl, kept hb h.1.2.2 hl⟩, (froz hb hl).trans h.2.1, (froz hb hl).trans h.2.2.1, (froz hb hl).trans h.2.2.2⟩
theorem FB.new (W : World) (x s : Int) (a : Option Addr) (L c : Nat) : FB (W.alloc (.cells #[.int .i64 x, .int .i64 s, .slice a L c] 38)) W.heap.size x s a L c := by
  unfold FB
  simp [go_sem]
theorem FB.set3 {W : World} {b : Nat} {x s : Int} {a : Option Addr} {L c : Nat} (h : FB W b x s a L c) (x' s' : Int) (a' : Option Addr) (L' c' : Nat) : FB (((W.setCell ⟨b, 0, none⟩ (.int .i64 x')).setCell ⟨b, 1, none⟩ (.int .i64 s')).setCell ⟨b, 2, none⟩ (.slice a' L' c')) b x' s' a' L' c' := by
  obtain ⟨⟨h0, h1, h2⟩, f0, f1, f2⟩ := h
  unfold FB
  simp [go_sem, h0, h1, h2, f0, f1, f2]
theorem FB.set1 {W : World} {b : Nat} {x s : Int} {a : Option Addr} {L c : Nat} (h : FB W b x s a L c) (s' : Int) : FB (W.setCell ⟨b, 1, none⟩ (.int .i64 s')) b x s' a L c := by
  obtain ⟨⟨h0, h1, h2⟩, f0, f1, f2⟩ := h
  unfold FB
  simp [go_sem, h0, h1, h2, f0, f1, f2]
theorem FB.set1_other {W : World} {b b' : Nat} {x s : Int} {a : Option Addr} {L c : Nat} (h : FB W b x s a L c) (hne : b' ≠ b) (v : Value) : FB (W.setCell ⟨b', 1, none⟩ v) b x s a L c := by
  obtain ⟨⟨h0, h1, h2⟩, f0, f1, f2⟩ := h
  have hne' : ¬ b = b' := fun e => hne e.symm
  unfold FB
  simp [go_sem, h0, h1, h2, f0, f1, f2, hne, hne']
theorem FB.set3_other {W : World} {b b' : Nat} {x s : Int} {a : Option Addr} {L c : Nat} (h : FB W b x s a L c) (hne : b' ≠ b) (u v t : Value) : FB (((W.setCell ⟨b', 0, none⟩ u).setCell ⟨b', 1, none⟩ v).setCell ⟨b', 2, none⟩ t) b x s a L c := by
  obtain ⟨⟨h0, h1, h2⟩, f0, f1, f2⟩ := h
  have hne' : ¬ b = b' := fun e => hne e.symm
  unfold FB
  simp [go_sem, h0, h1, h2, f0, f1, f2, hne, hne']
theorem Below.set3 {B : Nat} {W0 W : World} (h : Below B W0 W) {b : Nat} (hb : B ≤ b) (u v t : Value) : Below B W0 (((W.setCell ⟨b, 0, none⟩ u).setCell ⟨b, 1, none⟩ v).setCell ⟨b, 2, none⟩ t) :=
  ((h.setCell (show B ≤ (⟨b, 0, none⟩ : Addr).block from hb) _).setCell (show B ≤ (⟨b, 1, none⟩ : Addr).block from hb) _).setCell (show B ≤ (⟨b, 2, none⟩ : Addr).block from hb) _
theorem pow_far {p k n : Nat} (hp : 1 ≤ p) (h : 4096 < p ^ k) (hk : k ≤ n) : 4096 < p ^ n := Nat.lt_of_lt_of_le h (Nat.pow_le_pow_right hp hk)
set_option maxRecDepth 100000 in
set_option maxHeartbeats 6400000 in
theorem field_open (p : Int) (f : List Int) (af : Option Addr) (Lf cf : Nat) (w : World) (hf : RowL w af cf f) (hLf : f.length = Lf) (hl : Lf ≤ maxLen) :
    Calls Try.prog 22 #[.int .i64 p, .slice af Lf cf] w fun e w' => (∃ fv, e = .returned (.tuple #[fv, .int .i64 (fldE p f)]) ∧ OpV p f af Lf cf (fldE p f) fv) ∧ Below w.heap.size w w' := by
  have HC := Lib.hid fun w h => check_w (p := p) (w := w) (a := af) (c := cf) h hLf hl
  have HF := Lib.hid hf
  unfold maxLen at hl
  obtain ⟨T, hT⟩ : ∃ T, fldE p f = T := ⟨_, rfl⟩
  have HTa : Hid (polyE p f ≠ 0 → T = polyE p f) := Lib.hid fun h => hT ▸ fldE_a h
  have HTb : Hid (polyE p f = 0 → (Lf < 2 ∨ f.getLastD 1 ≠ 1) → T = 3) := Lib.hid fun h h2 => hT ▸ fldE_b h (by rw [hLf]; exact h2)
  have HTc : Hid (polyE p f = 0 → ¬ (Lf < 2 ∨ f.getLastD 1 ≠ 1) → 4096 < p.toNat ^ (Lf - 1) → T = 1) := Lib.hid fun h h2 h3 => hT ▸ fldE_c h (by rw [hLf]; exact h2) (by rw [hLf]; exact h3)
  have HTd : Hid (polyE p f = 0 → ¬ (Lf < 2 ∨ f.getLastD 1 ≠ 1) → ¬ 4096 < p.toNat ^ (Lf - 1) → ¬ Irr p.toNat f (Lf - 1) → T = 4) := Lib.hid fun h h2 h3 h4 => hT ▸ fldE_d h (by rw [hLf]; exact h2) (by rw [hLf]; exact h3) (by rw [hLf]; exact h4)
  have HTe : Hid (polyE p f = 0 → ¬ (Lf < 2 ∨ f.getLastD 1 ≠ 1) → ¬ 4096 < p.toNat ^ (Lf - 1) → Irr p.toNat f (Lf - 1) → T = 0) := Lib.hid fun h h2 h3 h4 => hT ▸ fldE_e h (by rw [hLf]; exact h2) (by rw [hLf]; exact h3) (by rw [hLf]; exact h4)
  have HFD : Hid (polyE p f = 0 → ¬ (Lf < 2 ∨ f.getLastD 1 ≠ 1) → ¬ 4096 < p.toNat ^ (Lf - 1) → Fld p.toNat f (Lf - 1)) := Lib.hid fun h h2 h3 => by have := fld_of h (by rw [hLf]; exact h2) (by rw [hLf]; exact h3); rwa [hLf] at this
  have HG : Hid (polyE p f = 0 → 2 ≤ p ∧ p ≤ 251 ∧ Lf ≤ 13) := Lib.hid fun h => ⟨(polyE_zero.1 h).prime.1, (polyE_zero.1 h).prime.2.1, hLf ▸ (polyE_zero.1 h).len⟩
  have HOP : Hid (∀ fv, OpV p f af Lf cf T fv ↔ ∃ (x s : Int) (a : Option Addr) (L c : Nat), fv = .agg #[.int .i64 x, .int .i64 s, .slice a L c] ∧ (T = 0 → x = p ∧ s = ((p.toNat ^ (Lf - 1) : Nat) : Int) ∧ a = af ∧ L = Lf ∧ c = cf)) := Lib.hid fun fv => by unfold OpV; rw [hLf]
  have HL := Lib.hid hLf
  rw [hT]
  obtain ⟨E, hE⟩ : ∃ E, polyE p f = E := ⟨_, rfl⟩
  rw [hE] at HTa HTb HTc HTd HTe HFD HG HC
  clear hf hT hE hLf
  go_enter Try.func22, Try.ntmps22
  go_wp2_with fail
  have F0 := FB.new w 0 0 none 0 0
  have hbw : Below w.heap.size w (w.alloc (.cells #[.int .i64 0, .int .i64 0, .slice none 0 0] 38)) := (Below.refl _ _).alloc (Nat.le_refl _) _
  obtain ⟨w1, hw1⟩ : ∃ W, W = w.alloc (.cells #[.int .i64 0, .int .i64 0, .slice none 0 0] 38) := ⟨_, rfl⟩
  rw [← hw1] at F0 hbw ⊢
  clear hw1
  obtain ⟨B, hB⟩ : ∃ B, w.heap.size = B := ⟨_, rfl⟩
  rw [hB] at F0 hbw ⊢
  refine (HC.out _ (HF.out.below (hB ▸ hbw) (Nat.le_refl _))).mono ?_
  rintro e w2 ⟨rfl, hb2⟩
  replace F0 := F0.below hb2
  have HF2 := Lib.hid (HF.out.below (below_two (hB ▸ hbw) hb2) (Nat.le_refl _))
  replace hbw := hbw.trans (hb2.mono (hB ▸ hbw.size))
  clear hb2
  by_cases h0 : E = 0
  · subst h0
    by_cases h2 : Lf < 2 ∨ f.getLastD 1 ≠ 1
    · have HT := Lib.hid (HTb.out rfl h2)
      by_cases hs : Lf < 2
      · clear h2
        obtain ⟨⟨c0, c1, c2⟩, f0, f1, f2⟩ := id F0
        go_wp2
        refine bodyPost_ret (v := .tuple #[.agg #[.int .i64 0, .int .i64 0, .slice none 0 0], .int .i64 3]) ?_ rfl ?_
        · simp [results, Try.results22, go_sem, c0, c1, c2]
        · rw [HT.out] at HOP ⊢
          exact ⟨⟨_, rfl, OpV.none (by omega)⟩, hB ▸ Below.set3 hbw (Nat.le_refl _) _ _ _⟩
      · obtain ⟨n, rfl⟩ : ∃ n, Lf = n + 1 := ⟨Lf - 1, by omega⟩
        obtain ⟨x, hx⟩ : ∃ x, f[n]? = some x := ⟨_, List.getElem?_eq_getElem (by rw [HL.out]; omega)⟩
        have hx1 : ¬ x = 1 := by
          rw [getLastD_at hx HL.out] at h2
          exact h2.resolve_left hs
        obtain ⟨b, o, rfl, hc⟩ := HF2.out.shape (by rw [HL.out]; omega)
        have kx := hc n x hx
        have x1 : (x == 1) = false := by simpa using hx1
        have x2 : (x != 1) = true := by simpa using hx1
        have d1 : decide ((n : Int) + 1 < 2) = false := decide_eq_false (by omega)
        clear h2 hc hx
        obtain ⟨⟨c0, c1, c2⟩, f0, f1, f2⟩ := id F0
        go_wp2
        refine bodyPost_ret (v := .tuple #[.agg #[.int .i64 0, .int .i64 0, .slice none 0 0], .int .i64 3]) ?_ rfl ?_
        · simp [results, Try.results22, go_sem, c0, c1, c2]
        · rw [HT.out] at HOP ⊢
          exact ⟨⟨_, rfl, OpV.none (by omega)⟩, hB ▸ Below.set3 hbw (Nat.le_refl _) _ _ _⟩
    · have HN2 := Lib.hid h2
      obtain ⟨n, rfl⟩ : ∃ n, Lf = n + 1 := ⟨Lf - 1, by omega⟩
      obtain ⟨x, hx⟩ : ∃ x, f[n]? = some x := ⟨_, List.getElem?_eq_getElem (by rw [HL.out]; omega)⟩
      obtain rfl : x = 1 := by
        rw [getLastD_at hx HL.out] at h2
        exact Classical.byContradiction fun e => h2 (.inr e)
      have hn1 : 1 ≤ n := by omega
      obtain ⟨b, o, rfl, hc⟩ := HF2.out.shape (by rw [HL.out]; omega)
      have kx := hc n 1 hx
      have d1 : decide ((n : Int) + 1 < 2) = false := decide_eq_false (by omega)
      clear h2 hc hx
      have hlt0 := F0.lt
      obtain ⟨g1, g2, g3⟩ := HG.out rfl
      obtain ⟨P, rfl⟩ := Int.eq_ofNat_of_zero_le (show 0 ≤ p by omega)
      rw [Int.toNat_natCast, Nat.add_sub_cancel] at HTc HTd HTe HFD HOP
      replace HTc := Lib.hid (HTc.out rfl HN2.out)
      replace HTd := Lib.hid (HTd.out rfl HN2.out)
      replace HTe := Lib.hid (HTe.out rfl HN2.out)
      replace HFD := Lib.hid (HFD.out rfl HN2.out)
      have H1 : Hid (P ^ 0 = 1) := Lib.hid (Nat.pow_zero _)
      have HPF := Lib.hid fun k => pow_far (p := P) (k := k) (n := n) (by omega)
      clear HTa HTb HG hl
      go_wp2_with fail
      obtain ⟨w3, hw3⟩ : ∃ W, W = w2.alloc (.cells #[.int .i64 P, .int .i64 1, .slice (some ⟨b, o, none⟩) (n + 1) cf] 38) := ⟨_, rfl⟩
      have hA : Below w2.heap.size w2 w3 := by rw [hw3]; exact (Below.refl _ _).alloc (Nat.le_refl _) _
      have G3 : FB w3 w2.heap.size P 1 (some ⟨b, o, none⟩) (n + 1) cf := by rw [hw3]; exact FB.new _ _ _ _ _ _
      replace F0 := F0.below hA
      have kx3 := kept hA kx (World.block_lt_of_cell? _ _ kx)
      have HF3 := Lib.hid (HF2.out.below hA (Nat.le_refl _))
      have z2 : B ≤ w2.heap.size := hB ▸ hbw.size
      have hb3 := hbw.trans (hA.mono z2)
      have hne : w2.heap.size ≠ B := Nat.ne_of_gt hlt0
      rw [← hw3]
      clear hw3 hA kx hbw HF2
      obtain ⟨B3, hB3⟩ : ∃ B3, w2.heap.size = B3 := ⟨_, rfl⟩
      rw [hB3] at G3 z2 hne ⊢
      clear hB3
      go_loopw [34] (fun iv wr => ∃ I : Nat, iv = .int .i64 I ∧ I ≤ n ∧ P ^ I ≤ 4096 ∧ FB wr B3 P ((P ^ I : Nat) : Int) (some ⟨b, o, none⟩) (n + 1) cf ∧ FB wr B 0 0 none 0 0 ∧ Below B w wr) (fun iv _ => (n - intOf iv).toNat)
      case atStart => exact ⟨0, rfl, Nat.zero_le _, by rw [H1.out]; omega, by rw [H1.out]; exact G3, F0, hb3⟩
      case round =>
        obtain ⟨I, rfl, hI, hPI, GI, FI, hb⟩ := hrel
        clear G3 F0 hb3 kx3 HF3
        have hne1 : ¬ B3 = B := hne
        have hne2 : ¬ B = B3 := fun e => hne e.symm
        obtain ⟨⟨c0, c1, c2⟩, f0, f1, f2⟩ := id FI
        obtain ⟨⟨d0, d1', d2⟩, e0, e1, e2⟩ := id GI
        by_cases hlt : I < n
        · have HPS := Lib.hid (Nat.pow_succ (n := P) (m := I))
          have HPFI := Lib.hid (HPF.out (I + 1))
          obtain ⟨Q0, hQ0⟩ : ∃ Q, P ^ I = Q := ⟨_, rfl⟩
          rw [hQ0] at hPI HPS d1' GI
          have m1 : ((Q0 : Int) * P) = ((Q0 * P : Nat) : Int) := by norm_cast
          have hQb : Q0 * P ≤ 4096 * 251 := Nat.mul_le_mul hPI (by omega)
          obtain ⟨Q, hQ⟩ : ∃ Q, Q0 * P = Q := ⟨_, rfl⟩
          rw [hQ] at m1 hQb HPS
          have m2 : IntKind.i64.wrap ((Q0 : Int) * P) = (Q : Int) := by rw [m1]; exact IntWalk.i64_in _ (by omega)
          clear hQ hQ0
          have GI2 := GI.set1 (Q : Int)
          have FI2 := FI.set1_other hne (.int .i64 (Q : Int))
          have hb2 := hb.setCell (show B ≤ (⟨B3, 1, none⟩ : Addr).block from z2) (.int .i64 (Q : Int))
          by_cases hbig : 4096 < Q
          · have HT := Lib.hid (HTc.out (HPFI.out (by rw [HPS.out]; exact hbig) hlt))
            go_wp2
            refine bodyPost_ret (v := .tuple #[.agg #[.int .i64 0, .int .i64 0, .slice none 0 0], .int .i64 1]) ?_ rfl ?_
            · simp [results, Try.results22, go_sem, c0, c1, c2, hne1, hne2]
            · rw [HT.out] at HOP ⊢
              exact ⟨⟨_, rfl, OpV.none (by omega)⟩, hB ▸ Below.set3 hb2 (Nat.le_refl _) _ _ _⟩
          · go_wp2
            go_roundw
            case rel => exact ⟨I + 1, by go_num, hlt, by rw [HPS.out]; omega, by rw [HPS.out]; exact GI2, FI2, hb2⟩
            case measure => simp [intOf]; omega
        · obtain rfl : I = n := by omega
          replace HTd := Lib.hid (HTd.out (by omega))
          replace HTe := Lib.hid (HTe.out (by omega))
          have HSP := Lib.hid fun w h => field_splits P I f ((P ^ I : Nat) : Int) (some ⟨b, o, none⟩) (I + 1) cf w (HFD.out (by omega)) h HL.out
          obtain ⟨Q, hQ⟩ : ∃ Q, P ^ I = Q := ⟨_, rfl⟩
          rw [hQ] at hPI HSP HOP d1' GI
          clear hQ HPF
          go_wp2_with fail
          refine (HSP.out _ (HF.out.below hb (Nat.le_of_eq hB))).mono ?_
          rintro e w5 ⟨⟨t, rfl, ht⟩, hb5⟩
          replace FI := FI.below hb5
          replace GI := GI.below hb5
          have hb6 := hb.trans (hb5.mono (hB ▸ hb.size))
          clear hb5 hb c0 c1 c2 f0 f1 f2 d0 d1' d2 e0 e1 e2
          obtain ⟨⟨c0, c1, c2⟩, f0, f1, f2⟩ := id FI
          obtain ⟨⟨d0, d1', d2⟩, e0, e1, e2⟩ := id GI
          cases t
          · have HT := Lib.hid (HTe.out (ht.1 rfl))
            clear ht
            go_wp2
            refine bodyPost_ret (v := .tuple #[.agg #[.int .i64 P, .int .i64 Q, .slice (some ⟨b, o, none⟩) (I + 1) cf], .int .i64 0]) ?_ rfl ?_
            · simp [results, Try.results22, go_sem, c0, c1, c2, hne1, hne2]
            · rw [HT.out] at HOP ⊢
              exact ⟨⟨_, rfl, (HOP.out _).2 ⟨_, _, _, _, _, rfl, fun _ => ⟨rfl, rfl, rfl, rfl, rfl⟩⟩⟩, hB ▸ Below.set3 hb6 (Nat.le_refl _) _ _ _⟩
          · have HT := Lib.hid (HTd.out fun e => by have := ht.2 e; cases this)
            clear ht
            go_wp2
            refine bodyPost_ret (v := .tuple #[.agg #[.int .i64 0, .int .i64 0, .slice none 0 0], .int .i64 4]) ?_ rfl ?_
            · simp [results, Try.results22, go_sem, c0, c1, c2, hne1, hne2]
            · rw [HT.out] at HOP ⊢
              exact ⟨⟨_, rfl, OpV.none (by omega)⟩, hB ▸ Below.set3 hb6 (Nat.le_refl _) _ _ _⟩
  · have HT := Lib.hid (HTa.out h0)
    have e1 : (E == 0) = false := by simpa using h0
    have e2 : (E != 0) = true := by simpa using h0
    have HE := Lib.hid h0
    clear h0
    obtain ⟨⟨c0, c1, c2⟩, f0, f1, f2⟩ := id F0
    go_wp2
    refine bodyPost_ret (v := .tuple #[.agg #[.int .i64 0, .int .i64 0, .slice none 0 0], .int .i64 E]) ?_ rfl ?_
    · simp [results, Try.results22, go_sem, c0, c1, c2]
    · rw [HT.out] at HOP ⊢
      exact ⟨⟨_, rfl, OpV.none HE.out⟩, hB ▸ Below.set3 hbw (Nat.le_refl _) _ _ _⟩
end Go.Proofs.Ytkkefbjmdbjbhaa

/- Contracts of package field: pow, splits. -/
import Derived.Test.YtkkefbjmdbjbhaaFldP
namespace Go.Proofs.Ytkkefbjmdbjbhaa
open Go.RowKit
set_option linter.unusedVariables false
set_option linter.unusedSimpArgs false
theorem pow_odd {p m : Nat} {f : List Int} (h : Fld p f m) {A X K R : Nat} (e : mulF p f X (powF p f A K) = R) (ho : K % 2 = 1) (hA : A < p ^ m) : mulF p f (mulF p f X A) (powF p f (mulF p f A A) (K / 2)) = R := by
  obtain ⟨k, rfl⟩ : ∃ k, K = 2 * k + 1 := ⟨K / 2, by omega⟩
  rw [show (2 * k + 1) / 2 = k by omega, ← e, h.mul_pow, ← h.pow_add, h.mul_assoc]
  congr 1
  rw [show 2 * k + 1 = 1 + (k + k) by omega, h.pow_add A 1]
  congr 1
  show A = mulF p f 1 A
  rw [h.one_mul hA]
theorem pow_evn {p m : Nat} {f : List Int} (h : Fld p f m) {A X K R : Nat} (e : mulF p f X (powF p f A K) = R) (ho : ¬ K % 2 = 1) : mulF p f X (powF p f (mulF p f A A) (K / 2)) = R := by
  obtain ⟨k, rfl⟩ : ∃ k, K = 2 * k := ⟨K / 2, by omega⟩
  rw [show (2 * k) / 2 = k by omega, ← e, h.mul_pow, ← h.pow_add]
  rw [show 2 * k = k + k by omega]
set_option maxRecDepth 100000 in
set_option maxHeartbeats 6400000 in
theorem field_pow (p m : Nat) (f : List Int) (sz : Int) (af : Option Addr) (Lf cf a0 K0 : Nat) (w : World) (h : Fld p f m) (hf : RowL w af cf f) (hLf : f.length = Lf) (ha : a0 < p ^ m) (hk : K0 ≤ 9223372036854775807) :
    Calls Try.prog 21 #[.agg #[.int .i64 p, .int .i64 sz, .slice af Lf cf], .int .i64 a0, .int .i64 K0] w fun e w' => e = .returned (.int .i64 (powF p f a0 K0)) ∧ Below w.heap.size w w' := by
  have HM := Lib.hid fun a b w hf ha hb => field_mul p m f sz af Lf cf a b w h hf hLf ha hb
  have HH := Lib.hid h
  have HF := Lib.hid hf
  have hsm := h.small
  obtain ⟨R, hR⟩ : ∃ R, powF p f a0 K0 = R := ⟨_, rfl⟩
  have HI : Hid (mulF p f 1 (powF p f a0 K0) = R) := Lib.hid (by rw [h.one_mul (h.pow_lt _ _), hR])
  have h1 := h.one_lt
  rw [hR]
  clear hR hf hLf h
  go_enter Try.func21, Try.ntmps21
  go_wp2_with fail
  obtain ⟨w1, hw1⟩ : ∃ W, W = w.alloc (.cells #[.int .i64 p, .int .i64 sz, .slice af Lf cf] 38) := ⟨_, rfl⟩
  have k0 : w1.cell? ⟨w.heap.size, 0, none⟩ = some (.int .i64 p) := by rw [hw1]; simp [go_sem]
  have k1 : w1.cell? ⟨w.heap.size, 1, none⟩ = some (.int .i64 sz) := by rw [hw1]; simp [go_sem]
  have k2 : w1.cell? ⟨w.heap.size, 2, none⟩ = some (.slice af Lf cf) := by rw [hw1]; simp [go_sem]
  have hbw : Below w.heap.size w w1 := by rw [hw1]; exact (Below.refl _ _).alloc (Nat.le_refl _) _
  have HRF := Lib.hid (HF.out.below hbw (Nat.le_refl _))
  rw [← hw1]
  clear hw1
  go_loopw [1, 2, 7] (fun av kv xv wr => ∃ A K X : Nat, av = .int .i64 A ∧ kv = .int .i64 K ∧ xv = .int .i64 X ∧ K ≤ 9223372036854775807 ∧ A < p ^ m ∧ X < p ^ m ∧ Hid (mulF p f X (powF p f A K) = R) ∧ Below w1.heap.size w1 wr) (fun _ kv _ _ => (intOf kv).toNat)
  case atStart => exact ⟨a0, K0, 1, rfl, rfl, rfl, hk, ha, h1, HI, Below.refl _ _⟩
  case round =>
    obtain ⟨A, K, X, rfl, rfl, rfl, hK, hA, hX, HE, hb⟩ := hrel
    have q0 := kept hb k0 (World.block_lt_of_cell? _ _ k0)
    have q1 := kept hb k1 (World.block_lt_of_cell? _ _ k1)
    have q2 := kept hb k2 (World.block_lt_of_cell? _ _ k2)
    have HR2 := Lib.hid (HRF.out.below hb (Nat.le_refl _))
    by_cases hz : 0 < K
    · have HA := Lib.hid (and_one_i64 K (by omega) (by omega))
      have HXA := Lib.hid (HH.out.mul_lt X A)
      have HAA := Lib.hid (HH.out.mul_lt A A)
      by_cases ho : K % 2 = 1
      · have ho' : (bits BinOp.and IntKind.i64 K 1 == 1) = true := by rw [HA.out]; simp; omega
        have HE2 := Lib.hid (pow_odd HH.out HE.out ho hA)
        have HC1 := Lib.hid fun w hf => HM.out X A w hf hX hA
        have HC2 := Lib.hid fun w hf => HM.out A A w hf hA hA
        obtain ⟨xa, hxa⟩ : ∃ x, mulF p f X A = x := ⟨_, rfl⟩
        obtain ⟨aa, haa⟩ : ∃ x, mulF p f A A = x := ⟨_, rfl⟩
        rw [hxa] at HE2 HC1 HXA
        rw [haa] at HE2 HC2 HAA
        clear hxa haa ho
        go_wp2_with fail
        refine (HC1.out _ HR2.out).mono ?_
        rintro e w5 ⟨rfl, hb5⟩
        have q0' := kept hb5 q0 (World.block_lt_of_cell? _ _ q0)
        have q1' := kept hb5 q1 (World.block_lt_of_cell? _ _ q1)
        have q2' := kept hb5 q2 (World.block_lt_of_cell? _ _ q2)
        have HR5 := Lib.hid (HR2.out.below hb5 (Nat.le_refl _))
        have hb6 := below_two hb hb5
        clear q0 q1 q2 hb hb5
        go_wp2_with fail
        refine (HC2.out _ HR5.out).mono ?_
        rintro e w7 ⟨rfl, hb7⟩
        have hb8 := below_two hb6 hb7
        clear q0' q1' q2' hb6 hb7
        go_wp2
        go_roundw
        case rel => exact ⟨aa, K / 2, xa, rfl, by go_num, rfl, by omega, HAA.out, HXA.out, HE2, hb8⟩
        case measure => simp [intOf]; omega
      · have ho' : (bits BinOp.and IntKind.i64 K 1 == 1) = false := by rw [HA.out]; simp; omega
        have HE2 := Lib.hid (pow_evn HH.out HE.out ho)
        have HC2 := Lib.hid fun w hf => HM.out A A w hf hA hA
        obtain ⟨aa, haa⟩ : ∃ x, mulF p f A A = x := ⟨_, rfl⟩
        rw [haa] at HE2 HC2 HAA
        clear haa ho
        go_wp2_with fail
        refine (HC2.out _ HR2.out).mono ?_
        rintro e w7 ⟨rfl, hb7⟩
        have hb8 := below_two hb hb7
        clear q0 q1 q2 hb hb7
        go_wp2
        go_roundw
        case rel => exact ⟨aa, K / 2, X, rfl, by go_num, rfl, by omega, HAA.out, hX, HE2, hb8⟩
        case measure => simp [intOf]; omega
    · obtain rfl : K = 0 := by omega
      have HE3 : Hid (X = R) := Lib.hid (by have := HE.out; rwa [show powF p f A 0 = 1 from rfl, HH.out.mul_one hX] at this)
      go_wp2
      go_ret
      exact ⟨by rw [HE3.out]; rfl, below_two hbw hb⟩
theorem mon_num {p : Nat} (hp : 2 ≤ p) : ∀ {n : Nat} {d : List Int}, Pl p d → d.length = n + 1 → co d n = 1 → p ^ n ≤ numL p d ∧ numL p d < 2 * p ^ n
  | 0, [x], hd, _, h1 => by
    have : x = 1 := h1
    subst this
    simp [numL]
  | n + 1, x :: t, hd, hl, h1 => by
    have hx := hd.rng x (by simp)
    have ih := mon_num hp (n := n) hd.tail (by simpa using hl) h1
    rw [numL_cons, Nat.pow_succ]
    have hx2 : x.toNat < p := by omega
    obtain ⟨i1, i2⟩ := ih
    have a1 := Nat.mul_le_mul_right p i1
    have a2 : (numL p t + 1) * p ≤ 2 * p ^ n * p := Nat.mul_le_mul_right p i2
    rw [Nat.add_mul, Nat.one_mul] at a2
    rw [← Nat.mul_assoc]
    omega
theorem last_co {d : List Int} {n : Nat} {x : Int} (hl : d.length = n + 1) (h : d[n]? = some x) : co d n = x := by
  unfold co; rw [List.getD_eq_getElem?_getD, h]; rfl
theorem not_irr {p m : Nat} {f : List Int} (h : Fld p f m) {a : Nat} (h1 : p ≤ a) (h2 : a < 2 * p ^ (m / 2)) (hd : DvP p (digL p a) f) : ¬ Irr p f m := by
  have hp := h.p2
  intro hi
  have hl : (digL p a).length ≤ m / 2 + 1 := dig_len hp _ _ (Nat.lt_of_lt_of_le h2 (by rw [Nat.pow_succ, Nat.mul_comm]; exact Nat.mul_le_mul_left _ hp))
  refine hi _ (dig_pl hp a) ?_ (by omega) hd
  refine Nat.lt_of_not_le fun hle => ?_
  have := num_lt hp (dig_rng hp a)
  rw [num_dig hp] at this
  have h3 : p ^ (digL p a).length ≤ p ^ 1 := Nat.pow_le_pow_right (by omega) hle
  rw [Nat.pow_one] at h3
  omega
theorem is_irr {p m : Nat} {f : List Int} (h : Fld p f m) (hn : ∀ a, p ≤ a → a < 2 * p ^ (m / 2) → co (digL p a) ((digL p a).length - 1) = 1 → ¬ DvP p (digL p a) f) : Irr p f m := by
  have hp := h.p2
  intro d hd h2 hl hdv
  obtain ⟨d', hp', hl', h1', hdv'⟩ := DvP.monic h.pr (by omega) hd (by omega) hdv
  obtain ⟨n, hn'⟩ : ∃ n, d'.length = n + 1 := ⟨d'.length - 1, by omega⟩
  have h1'' : co d' n = 1 := by rw [← h1', ← hl', hn']; rfl
  obtain ⟨b1, b2⟩ := mon_num hp hp' hn' h1''
  have e := dig_num hp hp'
  refine hn (numL p d') ?_ ?_ ?_ (by rw [e]; exact hdv')
  · refine Nat.le_trans ?_ b1
    have := Nat.pow_le_pow_right (n := p) (by omega) (show 1 ≤ n by omega)
    rwa [Nat.pow_one] at this
  · refine Nat.lt_of_lt_of_le b2 (Nat.mul_le_mul_left _ (Nat.pow_le_pow_right (by omega) (by omega)))
  · rw [e, hl']; exact h1'
theorem over_dv {p m : Nat} {a b : Option Addr} {c d : Nat} {f xs : List Int} {w : World} {Lf Ld : Nat} (h : Fld p f m) (e1 : f.length = Lf) (e2 : xs.length = Ld) (l1 : Ld ≤ 400) (l0 : 0 < Ld) (hd : Pl p xs) (h1 : RowL w a c f) (h2 : RowL w b d xs) :
    Calls Try.prog 26 #[.int .i64 p, .slice a Lf c, .slice b Ld d] w fun e w' => (∃ (v : Value) (a' : Option Addr) (N c' : Nat), e = .returned (.tuple #[v, .slice a' N c']) ∧ (N = 0 ↔ DvP p xs f)) ∧ Below w.heap.size w w' := by
  subst e1; subst e2
  have hl := h.mon.len
  have := h.p2
  have := h.p251
  have := h.m12
  refine (poly_Over p a b c d f xs w (by omega) (by omega) h.pr h1 h2 (by omega) (by omega) h.mon.pl.rng hd.rng h.mon.pl.last hd.last (by omega)).mono ?_
  rintro e w' ⟨⟨aq, ar, cq, cr, qs, rs, rfl, _, hr, hd', hlt⟩, hb⟩
  refine ⟨⟨_, ar, rs.length, cr, rfl, fun h0 => ?_, fun hdv => ?_⟩, hb⟩
  · obtain rfl : rs = [] := List.eq_nil_of_length_eq_zero h0
    exact hd'.dv
  · rw [DvP.rem h.pr (by omega) hd hd' hlt hdv]; rfl
end Go.Proofs.Ytkkefbjmdbjbhaa

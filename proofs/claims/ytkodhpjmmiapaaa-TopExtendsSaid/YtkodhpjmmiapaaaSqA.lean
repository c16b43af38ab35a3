/- Merged: XGrp5 XWGrp XWGrp2 XWGrp3 XCom XWCom XCom2 XTk XTk2 XTk3 XTk4. -/
import Derived.Test.YtkodhpjmmiapaaaGrp4
import Derived.Test.YtkodhpjmmiapaaaGrpM
import Derived.StillTailTactics
/- Contracts of package group: Lock, Open, Mul. -/
namespace Go.Proofs.Ytkodhpjmmiapaaa
open Go.RowKit
set_option linter.unusedVariables false
set_option linter.unusedSimpArgs false
theorem wrongE_zero {P Q G H : Int} {zp zm : List Int} : wrongE P Q G H zp zm = 0 ↔ grpE P Q G H = 0 ∧ powsB Q zp = true ∧ memsB P Q zm = true := by
  unfold wrongE
  by_cases g : grpE P Q G H = 0
  · rw [if_pos g]
    by_cases e : powsB Q zp = true
    · rw [if_pos e]
      by_cases f : memsB P Q zm = true
      · simp [g, e, f]
      · simp [f]
    · simp [e]
  · rw [if_neg g]; simp [g]
theorem froz {W W' : World} (hb : Below W.heap.size W W') {b o : Nat} (h : b < W.heap.size) : W'.frozen? ⟨b, o, none⟩ = W.frozen? ⟨b, o, none⟩ := by
  unfold World.frozen?
  have := hb.block b h
  simp [this]
theorem still_of {P : Program} {f : FuncId} {args : Array Value} {w : World} {v : Value} (h : Calls P f args w fun e w' => e = .returned v ∧ w = w') : Calls P f args w fun e w'' => e = .returned v ∧ w'' = w := h.mono fun _ _ ⟨h1, h2⟩ => ⟨h1, h2.symm⟩
theorem RowI.four {W : World} {b : Nat} {x y z u : Int} (h : W.cell? ⟨b, 0, none⟩ = some (.int .i64 x)) (h' : W.cell? ⟨b, 1, none⟩ = some (.int .i64 y)) (h2 : W.cell? ⟨b, 2, none⟩ = some (.int .i64 z)) (h3 : W.cell? ⟨b, 3, none⟩ = some (.int .i64 u)) (hb : b < W.heap.size) : RowI W (some ⟨b, 0, none⟩) [x, y, z, u] := fun i v hv => by
  match i, hv with
  | 0, hv => cases hv; exact ⟨b, 0, rfl, hb, h⟩
  | 1, hv => cases hv; exact ⟨b, 0, rfl, hb, h'⟩
  | 2, hv => cases hv; exact ⟨b, 0, rfl, hb, h2⟩
  | 3, hv => cases hv; exact ⟨b, 0, rfl, hb, h3⟩
  | i + 4, hv => simp at hv
end Go.Proofs.Ytkodhpjmmiapaaa

/- The walks of the statements on groups. -/
namespace Go.Proofs.Ytkodhpjmmiapaaa
open Go.RowKit
set_option linter.unusedVariables false
set_option linter.unusedSimpArgs false
theorem shE_own {P Q G H a : Int} (h : grpE P Q G H = 0) : shE P Q G H a G = 0 ↔ 0 ≤ a ∧ a < Q := by
  refine ⟨fun h' => ⟨(shE_zero h').2.1, (shE_zero h').2.2.1⟩, fun h' => shE_ok h h'.1 h'.2 (grpE_zero h).2.2.2.2.1⟩
theorem shE_not {P Q G H a t : Int} (h : ¬ grpE P Q G H = 0) : ¬ shE P Q G H a t = 0 := fun h' => h (shE_zero h').1
end Go.Proofs.Ytkodhpjmmiapaaa

/- The walk of the statement GroupOpens. -/
namespace Go.Proofs.Ytkodhpjmmiapaaa
open Go.RowKit
set_option linter.unusedVariables false
set_option linter.unusedSimpArgs false
theorem open_lock {P Q G a r m : Int} (hP : 2 ≤ P) (hQ : 1 ≤ Q) (hG : memB P Q G = true) (hm : 1 ≤ m) (hm2 : m < P) (ha : 0 ≤ a) (ha2 : a < Q) (hr : 0 ≤ r) :
    m * pw (pw G a P) r P % P * pw (pw G r P) (Q - a) P % P = m := by
  rw [pw_pw G P ha hr, pw_pw G P hr (by omega)]
  have e : pw G (a * r) P * pw G (r * (Q - a)) P % P = 1 := by
    rw [pw_add G P (Int.mul_nonneg ha hr) (Int.mul_nonneg hr (by omega)), show a * r + r * (Q - a) = Q * r by rw [Int.mul_sub, Int.mul_comm a r, Int.mul_comm r Q]; omega, ← pw_pw G P (by omega) hr, (memB_iff.1 hG).2.2, pw_one, Int.emod_eq_of_lt (by omega) (by omega)]
  have e2 : ∀ u v : Int, u % P * v % P = u * v % P := fun u v => by rw [Int.mul_emod, Int.emod_emod, ← Int.mul_emod]
  rw [e2, Int.mul_assoc, Int.mul_emod, e, Int.mul_one, Int.emod_emod, Int.emod_eq_of_lt (by omega) hm2]
theorem wrong1 {P Q G H r y m : Int} (hg : grpE P Q G H = 0) (hr : 0 ≤ r) (hr2 : r < Q) (hy : memB P Q y = true) (hm : memB P Q m = true) : wrongE P Q G H [r] [y, m] = 0 :=
  wrongE_zero.2 ⟨hg, by simp [powsB, hr, hr2], by simp [memsB, hy, hm]⟩
theorem wrong1_r {P Q G H r : Int} {l : List Int} (hr : ¬ (0 ≤ r ∧ r < Q)) : ¬ wrongE P Q G H [r] l = 0 := fun h => by
  have := (wrongE_zero.1 h).2.1; simp [powsB] at this; exact hr this
theorem wrong1_m {P Q G H r y m : Int} (hm : memB P Q m = false) : ¬ wrongE P Q G H [r] [y, m] = 0 := fun h => by
  have := (wrongE_zero.1 h).2.2; simp [memsB, hm] at this
end Go.Proofs.Ytkodhpjmmiapaaa

/- The walk of the statement GroupMuls. -/
namespace Go.Proofs.Ytkodhpjmmiapaaa
open Go.RowKit
set_option linter.unusedVariables false
set_option linter.unusedSimpArgs false
theorem mul_lock {P X m n r s : Int} (hr : 0 ≤ r) (hs : 0 ≤ s) : (m * pw X r P % P) * (n * pw X s P % P) % P = m * n % P * pw X (r + s) P % P := by
  have e2 : ∀ u v : Int, u % P * v % P = u * v % P := fun u v => by rw [Int.mul_emod, Int.emod_emod, ← Int.mul_emod]
  have e3 : ∀ u v : Int, u * (v % P) % P = u * v % P := fun u v => by rw [Int.mul_emod, Int.emod_emod, ← Int.mul_emod]
  rw [e2, e3, ← pw_add X P hr hs, e3, e2, Int.mul_assoc, Int.mul_assoc, Int.mul_left_comm (pw X r P)]
theorem pows3 {P Q G H a r s : Int} (hg : grpE P Q G H = 0) (ha : 0 ≤ a ∧ a < Q) (hr : 0 ≤ r ∧ r < Q) (hs : 0 ≤ s ∧ s < Q) : (powsB Q [a, r, s] && (grpE P Q G H == 0)) = true := by
  simp [powsB, ha.1, ha.2, hr.1, hr.2, hs.1, hs.2, hg]
theorem pows_not {b : Bool} (h : ¬ b = true) : b = false := by cases b <;> simp_all
theorem wrongM {P Q G H x y z u : Int} (hg : grpE P Q G H = 0) (h1 : memB P Q x = true) (h2 : memB P Q y = true) (h3 : memB P Q z = true) (h4 : memB P Q u = true) : wrongE P Q G H [] [x, y, z, u] = 0 :=
  wrongE_zero.2 ⟨hg, rfl, by simp [memsB, h1, h2, h3, h4]⟩
theorem RowI.three {W : World} {b : Nat} {x y z : Int} (h : W.cell? ⟨b, 0, none⟩ = some (.int .i64 x)) (h' : W.cell? ⟨b, 1, none⟩ = some (.int .i64 y)) (h2 : W.cell? ⟨b, 2, none⟩ = some (.int .i64 z)) (hb : b < W.heap.size) : RowI W (some ⟨b, 0, none⟩) [x, y, z] := fun i v hv => by
  match i, hv with
  | 0, hv => cases hv; exact ⟨b, 0, rfl, hb, h⟩
  | 1, hv => cases hv; exact ⟨b, 0, rfl, hb, h'⟩
  | 2, hv => cases hv; exact ⟨b, 0, rfl, hb, h2⟩
  | i + 3, hv => simp at hv
end Go.Proofs.Ytkodhpjmmiapaaa

/- Contracts of package commit: Commit. -/
namespace Go.Proofs.Ytkodhpjmmiapaaa
open Go.RowKit
set_option linter.unusedVariables false
set_option linter.unusedSimpArgs false
theorem shE_H {P Q G H a : Int} (h : grpE P Q G H = 0) : shE P Q G H a H = 0 ↔ 0 ≤ a ∧ a < Q := by
  refine ⟨fun h' => ⟨(shE_zero h').2.1, (shE_zero h').2.2.1⟩, fun h' => shE_ok h h'.1 h'.2 (grpE_zero h).2.2.2.2.2⟩
/-- what binds -/
def com (P G H m r : Int) : Int := pw G m P * pw H r P % P
end Go.Proofs.Ytkodhpjmmiapaaa

/- The walk of the statement CommitAdds. -/
namespace Go.Proofs.Ytkodhpjmmiapaaa
open Go.RowKit
set_option linter.unusedVariables false
set_option linter.unusedSimpArgs false
theorem RowI.lits (w : World) (T : Nat) (zs : List Int) (vs : Array Value) (h : vs = (zs.map (Value.int .i64)).toArray) : RowI (w.alloc (.cells vs T)) (some ⟨w.heap.size, 0, none⟩) zs := by
  subst h
  exact RowI.cells fun i x hx => by simp [hx]
theorem pows5 {P Q G H m r n s : Int} (hg : grpE P Q G H = 0) (h1 : 0 ≤ m ∧ m < Q) (h2 : 0 ≤ r ∧ r < Q) (h3 : 0 ≤ n ∧ n < Q) (h4 : 0 ≤ s ∧ s < Q) : (powsB Q [m, r, n, s] && (grpE P Q G H == 0)) = true := by
  simp [powsB, h1.1, h1.2, h2.1, h2.2, h3.1, h3.2, h4.1, h4.2, hg]
theorem com_pos {P Q G H m r : Int} (hg : grpE P Q G H = 0) (hm : 0 ≤ m) (hr : 0 ≤ r) : memB P Q (com P G H m r) = true := by
  have ⟨⟨g1, g2, g3, g4, g5, _⟩, hp, hq, _, hG, hH⟩ := grpE_zero hg
  exact mem_mul (by omega) (by omega) (mem_pw (by omega) (by omega) hG hm) (mem_pw (by omega) (by omega) hH hr)
theorem com_add {P Q G H m r n s : Int} (hg : grpE P Q G H = 0) (hm : 0 ≤ m) (hr : 0 ≤ r) (hn : 0 ≤ n) (hs : 0 ≤ s) : com P G H ((m + n) % Q) ((r + s) % Q) = com P G H m r * com P G H n s % P := by
  have ⟨⟨g1, g2, g3, g4, g5, _⟩, hp, hq, _, hG, hH⟩ := grpE_zero hg
  unfold com
  rw [pw_mod (by omega) (by omega) hG (by omega), pw_mod (by omega) (by omega) hH (by omega), ← pw_add G P hm hn, ← pw_add H P hr hs, ← Int.mul_emod, ← Int.mul_emod]
  rw [Int.mul_assoc, Int.mul_left_comm (pw G n P), ← Int.mul_assoc]
end Go.Proofs.Ytkodhpjmmiapaaa

/- Contracts of package commit: over, Break. -/
namespace Go.Proofs.Ytkodhpjmmiapaaa
open Go.RowKit
set_option linter.unusedVariables false
set_option linter.unusedSimpArgs false
/-- a quotient by Q -/
def OverPost (Q a b : Int) (w : World) (e : Ending) (w' : World) : Prop := (∃ j : Int, 0 ≤ j ∧ j < Q ∧ b % Q * j % Q = 1 ∧ e = .returned (.int .i64 (a % Q * j % Q))) ∧ Below w.heap.size w w'
/-- the pairs bind alike, and are not the same -/
def BrkOk (P Q G H m r n s : Int) : Prop := (grpE P Q G H = 0 ∧ (0 ≤ m ∧ m < Q) ∧ 0 ≤ r ∧ r < Q) ∧ (grpE P Q G H = 0 ∧ (0 ≤ n ∧ n < Q) ∧ 0 ≤ s ∧ s < Q) ∧ com P G H m r = com P G H n s ∧ ¬ (m = n ∧ r = s)
theorem brk_pw {P Q G H m r n s : Int} (h : BrkOk P Q G H m r n s) : ¬ (s - r) % Q = 0 ∧ pw G ((m - n) % Q) P = pw H ((s - r) % Q) P := by
  obtain ⟨⟨hg, ⟨m1, m2⟩, r1, r2⟩, ⟨_, ⟨n1, n2⟩, s1, s2⟩, hc, hne⟩ := h
  have ⟨⟨g1, g2, g3, g4, g5, _⟩, hp, hq, _, hG, hH⟩ := grpE_zero hg
  have hH' := memB_iff.1 hH
  have key : pw G (m + (Q - n)) P = pw H (s + (Q - r)) P := by
    have o : ∀ {x : Int}, memB P Q x = true → ∀ k, 0 ≤ k → k ≤ Q → pw x k P * pw x (Q - k) P % P = 1 := fun {x} hx k k1 k2 => by
      rw [pw_add x P k1 (by omega), show k + (Q - k) = Q by omega]; exact (memB_iff.1 hx).2.2
    have e1 : com P G H m r * (pw G (Q - n) P * pw H (Q - r) P) % P = pw G (m + (Q - n)) P := by
      unfold com
      rw [← pw_add G P m1 (show 0 ≤ Q - n by omega), Int.mul_emod, Int.emod_emod, ← Int.mul_emod]
      rw [show pw G m P * pw H r P * (pw G (Q - n) P * pw H (Q - r) P) = (pw G m P * pw G (Q - n) P) * (pw H r P * pw H (Q - r) P) by
        rw [Int.mul_assoc, Int.mul_assoc, Int.mul_left_comm (pw H r P)]]
      rw [Int.mul_emod, o hH r r1 (by omega), Int.mul_one, Int.emod_emod]
    have e2 : com P G H n s * (pw G (Q - n) P * pw H (Q - r) P) % P = pw H (s + (Q - r)) P := by
      unfold com
      rw [← pw_add H P s1 (show 0 ≤ Q - r by omega), Int.mul_emod, Int.emod_emod, ← Int.mul_emod]
      rw [show pw G n P * pw H s P * (pw G (Q - n) P * pw H (Q - r) P) = (pw G n P * pw G (Q - n) P) * (pw H s P * pw H (Q - r) P) by
        rw [Int.mul_assoc, Int.mul_assoc, Int.mul_left_comm (pw H s P)]]
      rw [Int.mul_emod, o hG n n1 (by omega), Int.one_mul, Int.emod_emod]
    rw [← e1, ← e2, hc]
  have e3 : (m - n) % Q = (m + (Q - n)) % Q := by rw [show m + (Q - n) = m - n + Q by omega, Int.add_emod_right]
  have e4 : (s - r) % Q = (s + (Q - r)) % Q := by rw [show s + (Q - r) = s - r + Q by omega, Int.add_emod_right]
  have k2 : pw G ((m - n) % Q) P = pw H ((s - r) % Q) P := by
    rw [e3, e4, pw_mod (by omega) (by omega) hG (by omega), pw_mod (by omega) (by omega) hH (by omega), key]
  refine ⟨fun h0 => ?_, k2⟩
  rw [h0, pw_zero, ← pw_zero G] at k2
  have hi := pw_inj hp hq (by omega) (by omega) hG g5 (Int.emod_nonneg _ (by omega)) (Int.emod_lt_of_pos _ (by omega)) (Int.le_refl 0) (by omega) k2
  refine hne ⟨?_, ?_⟩
  · have := Int.emod_eq_zero_of_dvd (Int.dvd_of_emod_eq_zero hi)
    obtain ⟨c, hc⟩ := Int.dvd_of_emod_eq_zero hi
    have : -Q < Q * c ∧ Q * c < Q := by omega
    rcases Int.lt_trichotomy c 0 with h | h | h
    · have := Int.mul_le_mul_of_nonneg_left (show c ≤ -1 by omega) (show 0 ≤ Q by omega); omega
    · subst h; omega
    · have := Int.mul_le_mul_of_nonneg_left (show 1 ≤ c by omega) (show 0 ≤ Q by omega); omega
  · obtain ⟨c, hc⟩ := Int.dvd_of_emod_eq_zero h0
    have : -Q < Q * c ∧ Q * c < Q := by omega
    rcases Int.lt_trichotomy c 0 with h | h | h
    · have := Int.mul_le_mul_of_nonneg_left (show c ≤ -1 by omega) (show 0 ≤ Q by omega); omega
    · subst h; omega
    · have := Int.mul_le_mul_of_nonneg_left (show 1 ≤ c by omega) (show 0 ≤ Q by omega); omega
theorem brk_log {P Q G H m r n s j : Int} (h : BrkOk P Q G H m r n s) (j1 : 0 ≤ j) (hj : (s - r) % Q * j % Q = 1) : pw G ((m - n) % Q * j % Q) P = H := by
  have k := (brk_pw h).2
  obtain ⟨⟨hg, ⟨m1, m2⟩, r1, r2⟩, _⟩ := h
  have ⟨⟨g1, g2, g3, g4, g5, _⟩, hp, hq, _, hG, hH⟩ := grpE_zero hg
  have a0 := Int.emod_nonneg (m - n) (show Q ≠ 0 by omega)
  have b0 := Int.emod_nonneg (s - r) (show Q ≠ 0 by omega)
  rw [pw_mod (by omega) (by omega) hG (Int.mul_nonneg a0 j1), ← pw_pw G P a0 j1, k, pw_pw H P b0 j1, ← pw_mod (by omega) (by omega) hH (Int.mul_nonneg b0 j1), hj]
  have := memB_iff.1 hH
  unfold pw
  rw [show (1 : Int).toNat = 1 from rfl, Int.pow_one, Int.emod_eq_of_lt (by omega) this.2.1]
end Go.Proofs.Ytkodhpjmmiapaaa

/- Contracts of package talk: powers. -/
namespace Go.Proofs.Ytkodhpjmmiapaaa
open Go.RowKit
set_option linter.unusedVariables false
set_option linter.unusedSimpArgs false
end Go.Proofs.Ytkodhpjmmiapaaa

/- Contracts of package talk: said. -/
namespace Go.Proofs.Ytkodhpjmmiapaaa
open Go.RowKit
set_option linter.unusedVariables false
set_option linter.unusedSimpArgs false
/-- a row of talks: First, Asked, Answer -/
def RowT (W : World) (a : Option Addr) (ts : List (Int × Int × Int)) : Prop := ∀ (i : Nat) x, ts[i]? = some x → ∃ b, a = some ⟨b, 0, none⟩ ∧ b < W.heap.size ∧
  W.cell? ⟨b, i * 3, none⟩ = some (.int .i64 x.1) ∧ W.cell? ⟨b, i * 3 + 1, none⟩ = some (.int .i64 x.2.1) ∧ W.cell? ⟨b, i * 3 + 2, none⟩ = some (.int .i64 x.2.2)
/-- may it have been said? -/
def saidB (P Q : Int) (y : Int) (ts : List (Int × Int × Int)) : Bool := (ts.all fun x => powsB Q [x.2.1, x.2.2]) && (memB P Q y && ts.all fun x => memB P Q x.1)
def PreT (f : Int × Int × Int → Bool) (ts : List (Int × Int × Int)) (I : Nat) : Prop := ∀ (i : Nat) x, i < I → ts[i]? = some x → f x = true
theorem preT_all {f : Int × Int × Int → Bool} {ts : List (Int × Int × Int)} {I L : Nat} (h : PreT f ts I) (hl : L = ts.length) (hI : L ≤ I) : ts.all f = true := List.all_eq_true.2 fun x hx => by
  obtain ⟨i, hi⟩ := List.mem_iff_getElem?.1 hx
  exact h i x (by have := (List.getElem?_eq_some_iff.1 hi).1; omega) hi
theorem all_no {f : Int × Int × Int → Bool} {ts : List (Int × Int × Int)} {i : Nat} {x : Int × Int × Int} (hx : ts[i]? = some x) (h : f x = false) : ts.all f = false := by
  cases e : ts.all f
  · rfl
  · have := List.all_eq_true.1 e x (List.mem_of_getElem? hx); rw [h] at this; cases this
def SaidPost (P Q G H y : Int) (ts : List (Int × Int × Int)) (w : World) (e : Ending) (w' : World) : Prop :=
  ((saidB P Q y ts = true ∧ e = .returned (.int .i64 0)) ∨ (saidB P Q y ts = false ∧ ∃ t : Int, ¬ t = 0 ∧ e = .returned (.int .i64 t))) ∧ Below w.heap.size w w'
end Go.Proofs.Ytkodhpjmmiapaaa

/- Contracts of package talk: speak, right. -/
namespace Go.Proofs.Ytkodhpjmmiapaaa
open Go.RowKit
set_option linter.unusedVariables false
set_option linter.unusedSimpArgs false
/-- does what was said fit? -/
def rightB (P G y f q v : Int) : Bool := pw G v P == f * pw y q P % P
end Go.Proofs.Ytkodhpjmmiapaaa

/- Contracts of package talk: Speak, Check. -/
namespace Go.Proofs.Ytkodhpjmmiapaaa
open Go.RowKit
set_option linter.unusedVariables false
set_option linter.unusedSimpArgs false
theorem pows_three {Q a b c : Int} : powsB Q [a, b, c] = true ↔ (0 ≤ a ∧ a < Q) ∧ (0 ≤ b ∧ b < Q) ∧ (0 ≤ c ∧ c < Q) := by simp [powsB]
theorem frozK {W W' : World} (hb : Below W.heap.size W W') {b o : Nat} (h : b < W.heap.size) (hf : W.frozen? ⟨b, o, none⟩ = false) : W'.frozen? ⟨b, o, none⟩ = false := (froz hb h).trans hf
theorem RowT.one {W : World} {b : Nat} {x : Int × Int × Int} (h0 : W.cell? ⟨b, 0, none⟩ = some (.int .i64 x.1)) (h1 : W.cell? ⟨b, 1, none⟩ = some (.int .i64 x.2.1)) (h2 : W.cell? ⟨b, 2, none⟩ = some (.int .i64 x.2.2)) (hb : b < W.heap.size) : RowT W (some ⟨b, 0, none⟩) [x] := fun i y hy => by
  match i, hy with
  | 0, hy => cases hy; exact ⟨b, rfl, hb, h0, h1, h2⟩
  | i + 1, hy => simp at hy
theorem RowT.two {W : World} {b : Nat} {x y : Int × Int × Int} (h0 : W.cell? ⟨b, 0, none⟩ = some (.int .i64 x.1)) (h1 : W.cell? ⟨b, 1, none⟩ = some (.int .i64 x.2.1)) (h2 : W.cell? ⟨b, 2, none⟩ = some (.int .i64 x.2.2))
    (h3 : W.cell? ⟨b, 3, none⟩ = some (.int .i64 y.1)) (h4 : W.cell? ⟨b, 4, none⟩ = some (.int .i64 y.2.1)) (h5 : W.cell? ⟨b, 5, none⟩ = some (.int .i64 y.2.2)) (hb : b < W.heap.size) : RowT W (some ⟨b, 0, none⟩) [x, y] := fun i z hz => by
  match i, hz with
  | 0, hz => cases hz; exact ⟨b, rfl, hb, h0, h1, h2⟩
  | 1, hz => cases hz; exact ⟨b, rfl, hb, h3, h4, h5⟩
  | i + 2, hz => simp at hz
/-- what Check asks -/
theorem said_one {P Q y f q v : Int} : saidB P Q y [(f, q, v)] = true ↔ ((0 ≤ q ∧ q < Q) ∧ (0 ≤ v ∧ v < Q)) ∧ memB P Q y = true ∧ memB P Q f = true := by simp [saidB, powsB]
def ChkPost (P Q G y f q v : Int) (w : World) (e : Ending) (w' : World) : Prop :=
  ((saidB P Q y [(f, q, v)] = true ∧ e = .returned (.tuple #[.bool (rightB P G y f q v), .int .i64 0])) ∨ (saidB P Q y [(f, q, v)] = false ∧ ∃ t : Int, ¬ t = 0 ∧ e = .returned (.tuple #[.bool false, .int .i64 t]))) ∧ Below w.heap.size w w'
end Go.Proofs.Ytkodhpjmmiapaaa

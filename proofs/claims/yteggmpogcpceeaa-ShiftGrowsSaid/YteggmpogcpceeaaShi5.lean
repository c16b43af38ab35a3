/- The contract of shift.least. -/
import Derived.Test.YteggmpogcpceeaaShi3
import Derived.Test.YteggmpogcpceeaaShiG
import Derived.Test.YteggmpogcpceeaaLen
import Derived.Maps.OwnSet
import Derived.Maps.OwnOps
import Derived.Lib.ItoaNum
import Derived.WalkSpells
namespace Go.Proofs.Yteggmpogcpceeaa
open Go.RowKit Go.Maps Go.WideMaps
set_option linter.unusedVariables false
set_option linter.unusedSimpArgs false
theorem len_bounds {x : Nat} (h : x < 18446744073709551616) (h0 : x ≠ 0) : 1 ≤ Lib.bitLen x ∧ 2 ^ (Lib.bitLen x - 1) ≤ x ∧ x < 2 ^ Lib.bitLen x := Lib.bitLenAux_bounds 64 x h h0
theorem top_bit {x k : Nat} (h1 : 2 ^ (k - 1) ≤ x) (h2 : x < 2 ^ k) (hk : 1 ≤ k) : x.testBit (k - 1) = true := by
  refine Nat.testBit_of_two_pow_le_and_two_pow_add_one_gt h1 ?_
  rwa [Nat.sub_add_cancel hk]
theorem lt64 {x k : Nat} (h : x < 2 ^ k) (hk : k ≤ 64) : x < 18446744073709551616 := Nat.lt_of_lt_of_le h (Nat.pow_le_pow_right (n := 2) (by omega) hk)
/-- two maps hold the rows -/
structure TabD (Dr Dw : DataW Unit) (R : Sh.Tab) : Prop where
  no : ∀ k : Nat, R k = none → Maps.has Dr (.int .i64 k) = false
  yes : ∀ (k r : Nat) (b : Bool), R k = some (r, b) → Maps.has Dr (.int .i64 k) = true ∧ Dr.atKey (.int .i64 k) (.lit (.int .u64 0)) = .lit (.int .u64 r) ∧ Dw.atKey (.int .i64 k) (.lit (.bool false)) = .lit (.bool b)
theorem TabD.nil : TabD (.map []) (.map []) (fun _ => none) := ⟨fun k _ => by simp [has_eq], fun k r b h => by cases h⟩
theorem TabD.put {Dr Dw : DataW Unit} {R : Sh.Tab} (h : TabD Dr Dw R) (hr : IsMap Dr) (hw : IsMap Dw) (k r : Nat) (b : Bool) : TabD (Dr.put (.int .i64 k) (.lit (.int .u64 r))) (Dw.put (.int .i64 k) (.lit (.bool b))) (R.put k (r, b)) := by
  constructor
  · intro j hj
    unfold Sh.Tab.put at hj
    by_cases e : j = k
    · rw [if_pos e] at hj; cases hj
    · rw [if_neg e] at hj
      rw [has_put_other (fun e2 => e (by injection e2 with _ e3; omega))]
      exact h.no j hj
  · intro j r' b' hj
    unfold Sh.Tab.put at hj
    by_cases e : j = k
    · rw [if_pos e] at hj
      obtain ⟨rfl, rfl⟩ := Prod.mk.inj (Option.some.inj hj)
      subst e
      exact ⟨has_put_same hr (by simp [WideAt.IsKeyLit]) _, atKey_put_same hr (by simp [WideAt.IsKeyLit]) _ _, atKey_put_same hw (by simp [WideAt.IsKeyLit]) _ _⟩
    · rw [if_neg e] at hj
      have hne : Lit.int .i64 (j : Int) ≠ Lit.int .i64 (k : Int) := fun e2 => e (by injection e2 with _ e3; omega)
      rw [has_put_other hne, atKey_put_other hne, atKey_put_other hne]
      exact h.yes j r' b' hj
theorem law_int : Keyed Try.prog 3 := int_keyed (P := Try.prog) (q := .i64) (by kernel_rfl)
theorem u_int : Try.prog.underlying 3 = some (.int .i64) := by kernel_rfl
theorem u_u64 : Try.prog.underlying 29 = some (.int .u64) := by kernel_rfl
theorem u_bool : Try.prog.underlying 4 = some .bool := by kernel_rfl
theorem u_mapr : Try.prog.underlying 38 = some (.map 3 29) := by kernel_rfl
theorem u_mapw : Try.prog.underlying 39 = some (.map 3 4) := by kernel_rfl
theorem key_int {k : Nat} (h : k ≤ 1048576) : keyOf Try.prog 3 (.int .i64 k) = some (.int .i64 k) := keyOf_int_mk u_int (WalkArith.wf_i64 (by omega))
abbrev OwnR (W : World) (b n : Nat) (D : DataW Unit) : Prop := W.ownsMap Try.prog 3 (plainElem Try.prog 29) b n D
abbrev OwnW (W : World) (b n : Nat) (D : DataW Unit) : Prop := W.ownsMap Try.prog 3 (plainElem Try.prog 4) b n D
theorem look_no {W : World} {b n : Nat} {Dr Dw : DataW Unit} {R : Sh.Tab} (h : OwnR W b n Dr) (ht : TabD Dr Dw R) {k : Nat} (hk : k ≤ 1048576) (hR : R k = none) :
    ∃ c : Int, (Instr.lookup 38 (.map (some b)) (.int .i64 k) true).run Try.prog W = .ok (.tuple #[.int .u64 c, .bool false]) W := by
  obtain ⟨v, ps, hrun, hv⟩ := h.look_ok law_int u_mapr (zd := .lit (.int .u64 0)) (zp := []) (z := .int .u64 0) (by kernel_rfl) (plainElem_int u_u64 (by decide)) (key_int hk)
  obtain ⟨c, rfl, _⟩ := plainElem_int_inv u_u64 hv
  rw [ht.no k hR] at hrun
  exact ⟨c, hrun⟩
theorem look_yes {W : World} {b n : Nat} {Dr Dw : DataW Unit} {R : Sh.Tab} (h : OwnR W b n Dr) (ht : TabD Dr Dw R) {k r : Nat} {x : Bool} (hk : k ≤ 1048576) (hR : R k = some (r, x)) :
    (Instr.lookup 38 (.map (some b)) (.int .i64 k) true).run Try.prog W = .ok (.tuple #[.int .u64 r, .bool true]) W := by
  obtain ⟨v, ps, hrun, hv⟩ := h.look_ok law_int u_mapr (zd := .lit (.int .u64 0)) (zp := []) (z := .int .u64 0) (by kernel_rfl) (plainElem_int u_u64 (by decide)) (key_int hk)
  obtain ⟨h1, h2, h3⟩ := ht.yes k r x hR
  obtain ⟨c, rfl, hc⟩ := plainElem_int_inv u_u64 hv
  rw [h2] at hc
  have hc2 := hc.1
  simp at hc2
  rw [h1, ← hc2.1] at hrun
  exact hrun
theorem look_want {W : World} {b n : Nat} {Dr Dw : DataW Unit} {R : Sh.Tab} (h : OwnW W b n Dw) (ht : TabD Dr Dw R) {k r : Nat} {x : Bool} (hk : k ≤ 1048576) (hR : R k = some (r, x)) :
    (Instr.lookup 39 (.map (some b)) (.int .i64 k) false).run Try.prog W = .ok (.bool x) W := by
  obtain ⟨v, ps, hrun, hv⟩ := h.lookup law_int u_mapw (zd := .lit (.bool false)) (zp := []) (z := .bool false) (by kernel_rfl) (plainElem_bool u_bool _) (key_int hk)
  obtain ⟨h1, h2, h3⟩ := ht.yes k r x hR
  rw [h3] at hv
  have hv2 : v = .bool x := by
    unfold plainElem at hv
    simp only [u_bool] at hv
    cases v <;> simp at hv
    rw [hv.1]
  rw [hv2] at hrun
  exact hrun
theorem wpList_lookup_run {P : Program} (w : World) {ops : Array Oper} {rest : List Oper} {o : Oper} {a : Act} {Q : Exit → Act → World → Prop} (hg : o.guard = none) (m x : Operand) (t : TypeId) (c : Bool) (hop : o.op = Op.lookup t m x c)
    {mv xv v : Value} (hm : a.eval m = mv) (hx : a.eval x = xv) (hrun : (Instr.lookup t mv xv c).run P w = .ok v w) (hK : wpList P ops Q rest (a.put o.dst v) w) : wpList P ops Q (o :: rest) a w := by
  refine wpList_plain hg fun K' hK' => ?_
  unfold Oper.wp
  simp [execOp, hop, hm, hx, hrun, Result.andThen]
  exact hK' _ _ hK
end Go.Proofs.Yteggmpogcpceeaa

/- Rows of rows of bytes behind an address. -/
import Derived.Test.YtpikjahgnnejmaaPad
import Derived.Deep.Matrix
import Derived.Deep.LoopGhost
import Derived.Shelf.Abstract
import Derived.Test.YtpikjahgnnejmaaHeld
namespace Go.Proofs.Ytpikjahgnnejmaa
open Go.RowKit
set_option linter.unusedVariables false
set_option linter.unusedSimpArgs false
structure RowRB (W : World) (a : Option Addr) (c : Nat) (R : Nat → Option Addr × Nat) (rows : List (List Nat)) : Prop where
  nil : a = none → rows = [] ∧ c = 0
  cells : ∀ ad, a = some ad → ∀ (i : Nat) (xs : List Nat), rows[i]? = some xs → W.cell? (ad.add i) = some (.slice (R i).1 xs.length (R i).2)
  row : ∀ (i : Nat) (xs : List Nat), rows[i]? = some xs → RowB W (R i).1 (R i).2 xs
  len : rows.length ≤ c
theorem RowRB.below {W W' : World} {a : Option Addr} {c : Nat} {R : Nat → Option Addr × Nat} {rows : List (List Nat)} (h : RowRB W a c R rows) {B : Nat} (hb : Below B W W') (hB : W.heap.size ≤ B) : RowRB W' a c R rows :=
  ⟨h.nil, fun ad e i xs hx => by
    have k := h.cells ad e i xs hx
    exact (hb.cell (p := ad.add i) (Nat.lt_of_lt_of_le (World.block_lt_of_cell? W _ k) hB)).trans k, fun i xs hx => (h.row i xs hx).below hb hB, h.len⟩
theorem RowRB.shape {W : World} {a : Option Addr} {c : Nat} {R : Nat → Option Addr × Nat} {rows : List (List Nat)} (h : RowRB W a c R rows) (hne : 0 < rows.length) :
    ∃ b o, a = some ⟨b, o, none⟩ ∧ ∀ (i : Nat) (xs : List Nat), rows[i]? = some xs → W.cell? ⟨b, o + i, none⟩ = some (.slice (R i).1 xs.length (R i).2) := by
  rcases a with _ | ⟨b, o, s⟩
  · have := (h.nil rfl).1; subst this; simp at hne
  · have k0 := h.cells _ rfl 0 rows[0] (List.getElem?_eq_getElem hne)
    have hs : s = none := by
      cases s with
      | none => rfl
      | some y =>
        simp [World.cell?, Addr.add] at k0
        split at k0 <;> simp at k0
    subst hs
    refine ⟨b, o, rfl, fun i xs hx => ?_⟩
    have k := h.cells _ rfl i xs hx
    rw [Addr.add_lit] at k
    exact k
def IsMatB (W : World) (a : Option Addr) (len cap : Nat) (rows : List (List Nat)) : Prop :=
  rows.length = len ∧ len ≤ 9223372036854775807 ∧ (∃ R, RowRB W a cap R rows) ∧ ∀ xs ∈ rows, xs.length ≤ 9223372036854775807 ∧ ∀ x ∈ xs, x < 256
theorem matB_open {H : Type} {enc : TypeId × Value → H} {W : World} {fuel : Nat} {a : Option Addr} {len cap : Nat} {x : DataW H × List MemPlace}
    (hf : DataW.trod enc Try.prog W 0 (fun _ => true) true fuel 42 [.slice a len cap] = some x) : ∃ rows, IsMatB W a len cap rows := by
  rcases Go.Deep.open_int_rows Try.underlying42 Try.underlying26 Try.underlying5 (by kernel_rfl) (by kernel_rfl) hf with ⟨hcs, _⟩ | ⟨ad, l, c, A, L, C, Z, hcs, _, hl, hm, _, hc⟩
  · simp at hcs
    obtain ⟨rfl, rfl, rfl⟩ := hcs
    exact ⟨[], rfl, by omega, ⟨fun _ => (none, 0), ⟨fun _ => ⟨rfl, rfl⟩, (fun ad e => by cases e), (fun i xs h => by simp at h), by simp⟩⟩, by simp⟩
  · simp at hcs
    obtain ⟨rfl, rfl, rfl⟩ := hcs
    unfold maxLen at hm
    have each : ∀ i, i < len → ∃ xs : List Nat, W.cell? (ad.add i) = some (.slice (A i) xs.length (C i)) ∧ RowB W (A i) (C i) xs ∧ (∀ x ∈ xs, x < 256) ∧ xs.length ≤ maxLen := by
      intro i hi
      obtain ⟨h1, h2, h3, h4, h5, h6, h7⟩ := hc i (by omega)
      have hr : IsRow .u8 W (A i) (L i) (C i) (Z i) := by
        cases hA : A i with
        | none =>
          have h8 := h6 hA
          refine .inl ⟨rfl, by omega, h8, List.eq_nil_of_length_eq_zero (by omega)⟩
        | some ad' => exact .inr ⟨ad', rfl, h2, h3, h4, fun j hj => (h7 ad' hA).2 j (by omega), h5⟩
      obtain ⟨xs, q1, q2, q3, q4⟩ := hr.bytes
      exact ⟨xs, by rw [q1]; exact h1, q2, q3, by rw [q1]; exact q4⟩
    obtain ⟨y, hy⟩ := Go.Deep.choose_lt each
    have hat : ∀ (i : Nat) (z : List Nat), ((List.range len).map fun i => y i)[i]? = some z → i < len ∧ z = y i := fun i z hz => by
      have hi : i < len := by have := (List.getElem?_eq_some_iff.1 hz).1; simpa using this
      rw [List.getElem?_map, List.getElem?_range hi] at hz
      exact ⟨hi, by simpa using hz.symm⟩
    refine ⟨(List.range len).map fun i => y i, by simp, by omega, ⟨fun i => (A i, C i), ⟨(fun e => by cases e), fun ad' e i xs hx => ?_, fun i xs hx => ?_, by simp; omega⟩⟩, fun xs hx => ?_⟩
    · cases e
      obtain ⟨hi, rfl⟩ := hat i xs hx
      exact (hy i hi).1
    · obtain ⟨hi, rfl⟩ := hat i xs hx
      exact (hy i hi).2.1
    · obtain ⟨i, hi, rfl⟩ := List.mem_map.1 hx
      have h9 := hy i (List.mem_range.1 hi)
      have h8 := h9.2.2.2
      unfold maxLen at h8
      exact ⟨h8, h9.2.2.1⟩
section
set_option maxHeartbeats 1600000
theorem idx_rowsB (g : Nat) (lb : Array Value) (eg : ∀ args w, (callFunc g args).run Try.prog w = .ok (.enter g args) w) (p : List Nat → Bool) (a : Option Addr) (c : Nat) (R : Nat → Option Addr × Nat) (rows : List (List Nat)) (w : World) (L : Nat) (h : RowRB w a c R rows) (hL : rows.length = L) (hl : L ≤ 9223372036854775807)
    (hp : ∀ W a c xs, Below w.heap.size w W → xs ∈ rows → RowB W a c xs → Calls Try.prog g (#[.slice a xs.length c] ++ lb) W fun e w' => e = .returned (.bool (p xs)) ∧ Below W.heap.size W w') :
    Calls Try.prog 63 #[.slice a L c, .func (.func g) #[] lb] w fun e w' => (∃ r : Int, e = .returned (.int .i64 r) ∧ decide (0 ≤ r) = rows.any p) ∧ Below w.heap.size w w' := by
  have HP := Lib.hid hp
  have HR := Lib.hid h
  have HL := Lib.hid hL
  clear hL h hp
  go_enter Try.func63, Try.ntmps63
  go_wp2
  go_loopw [8] (fun i wr => ∃ I : Nat, i = .int .i64 I ∧ I ≤ L ∧ Hid (∀ (j : Nat) x, j < I → rows[j]? = some x → p x = false) ∧ Below w.heap.size w wr) (fun i _ => L - (intOf i).toNat)
  case atStart => exact ⟨0, rfl, by omega, Lib.hid (fun j x h => absurd h (Nat.not_lt_zero _)), Below.refl _ _⟩
  case round =>
    obtain ⟨I, rfl, hI, HA, hb⟩ := hrel
    by_cases hlt : I < L
    · obtain ⟨x, hx⟩ : ∃ x, rows[I]? = some x := ⟨_, List.getElem?_eq_getElem (by rw [HL.out]; exact hlt)⟩
      have hx2 := List.mem_of_getElem? hx
      have hrr := HR.out.below hb (Nat.le_refl _)
      obtain ⟨b, o, rfl, hc⟩ := hrr.shape (by rw [HL.out]; omega)
      have kx := hc I x hx
      have HC := Lib.hid (HP.out wr (R I).1 (R I).2 x hb hx2 (hrr.row I x hx))
      have HXI := Lib.hid hx
      have HB := Lib.hid hb
      clear hx hc hb hrr
      obtain ⟨q, hq⟩ : ∃ q, p x = q := ⟨_, rfl⟩
      rw [hq] at HC
      have HQ := Lib.hid hq
      clear hq
      cases q with
      | true =>
        go_wp2_with (go_at_fn g; refine HC.out.mono ?_; rintro e w' ⟨rfl, hb'⟩)
        go_ret
        refine ⟨⟨_, rfl, ?_⟩, below_two HB.out hb'⟩
        rw [decide_eq_true (by omega : (0 : Int) ≤ (I : Int))]
        symm
        exact List.any_eq_true.2 ⟨x, List.mem_of_getElem? HXI.out, HQ.out⟩
      | false =>
        go_wp2_with (go_at_fn g; refine HC.out.mono ?_; rintro e w' ⟨rfl, hb'⟩)
        go_round
        case rel =>
          refine ⟨I + 1, by go_num, by omega, Lib.hid (fun j y hj hy => ?_), below_two HB.out hb'⟩
          by_cases e : j = I
          · subst e
            have := HXI.out
            rw [hy] at this
            rw [Option.some.inj this]; exact HQ.out
          · exact HA.out j y (by omega) hy
        case measure => simp [intOf]; omega
    · go_wp2
      go_ret
      refine ⟨⟨_, rfl, ?_⟩, hb⟩
      symm
      rw [decide_eq_false (by omega), Bool.eq_false_iff]
      intro hany
      obtain ⟨x, hm, hpx⟩ := List.any_eq_true.1 hany
      obtain ⟨j, hj⟩ := List.getElem?_of_mem hm
      have := HA.out j x (by have := (List.getElem?_eq_some_iff.1 hj).1; have := HL.out; omega) hj
      rw [hpx] at this; cases this
theorem contains_rowsB (g : Nat) (lb : Array Value) (eg : ∀ args w, (callFunc g args).run Try.prog w = .ok (.enter g args) w) (p : List Nat → Bool) (a : Option Addr) (c : Nat) (R : Nat → Option Addr × Nat) (rows : List (List Nat)) (w : World) (L : Nat) (h : RowRB w a c R rows) (hL : rows.length = L) (hl : L ≤ 9223372036854775807)
    (hp : ∀ W a c xs, Below w.heap.size w W → xs ∈ rows → RowB W a c xs → Calls Try.prog g (#[.slice a xs.length c] ++ lb) W fun e w' => e = .returned (.bool (p xs)) ∧ Below W.heap.size W w') :
    Calls Try.prog 53 #[.slice a L c, .func (.func g) #[] lb] w fun e w' => e = .returned (.bool (rows.any p)) ∧ Below w.heap.size w w' := by
  have HI := Lib.hid (idx_rowsB g lb eg p a c R rows w L h hL hl hp)
  obtain ⟨q, hq⟩ : ∃ q, rows.any p = q := ⟨_, rfl⟩
  rw [hq] at HI ⊢
  clear hq h hp hL
  go_enter Try.func53, Try.ntmps53
  go_wp2_with fail
  refine HI.out.mono ?_
  rintro e w' ⟨⟨r, rfl, hr⟩, hb⟩
  have HRR := Lib.hid hr
  clear hr
  go_wp2
  go_ret
  exact ⟨by rw [← HRR.out]; rfl, hb⟩
end
end Go.Proofs.Ytpikjahgnnejmaa

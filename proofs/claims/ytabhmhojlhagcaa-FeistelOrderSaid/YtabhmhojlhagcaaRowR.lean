/- Rows of rows of ints behind an address. -/
import Derived.Test.YtabhmhojlhagcaaRowL
import Derived.Deep.Matrix
namespace Go.Proofs.Ytabhmhojlhagcaa
open Go.RowKit
set_option linter.unusedVariables false
set_option linter.unusedSimpArgs false
structure RowR (W : World) (a : Option Addr) (c : Nat) (R : Nat → Option Addr × Nat) (rows : List (List Int)) : Prop where
  nil : a = none → rows = [] ∧ c = 0
  cells : ∀ ad, a = some ad → ∀ (i : Nat) (xs : List Int), rows[i]? = some xs → W.cell? (ad.add i) = some (.slice (R i).1 xs.length (R i).2)
  row : ∀ (i : Nat) (xs : List Int), rows[i]? = some xs → RowL W (R i).1 (R i).2 xs
  len : rows.length ≤ c
theorem RowR.below {W W' : World} {a : Option Addr} {c : Nat} {R : Nat → Option Addr × Nat} {rows : List (List Int)} (h : RowR W a c R rows) {B : Nat} (hb : Below B W W') (hB : W.heap.size ≤ B) : RowR W' a c R rows :=
  ⟨h.nil, fun ad e i xs hx => by
    have k := h.cells ad e i xs hx
    exact (hb.cell (p := ad.add i) (Nat.lt_of_lt_of_le (World.block_lt_of_cell? W _ k) hB)).trans k, fun i xs hx => (h.row i xs hx).below hb hB, h.len⟩
theorem RowR.shape {W : World} {a : Option Addr} {c : Nat} {R : Nat → Option Addr × Nat} {rows : List (List Int)} (h : RowR W a c R rows) (hne : 0 < rows.length) :
    ∃ b o, a = some ⟨b, o, none⟩ ∧ ∀ (i : Nat) (xs : List Int), rows[i]? = some xs → W.cell? ⟨b, o + i, none⟩ = some (.slice (R i).1 xs.length (R i).2) := by
  rcases a with _ | ⟨b, o, s⟩
  · have := (h.nil rfl).1; subst this; simp at hne
  · have k0 := h.cells _ rfl 0 rows[0] (List.getElem?_eq_getElem hne)
    have hs : s = none := by
      cases s with
      | none => rfl
      | some y =>
        simp [World.cell?, Addr.add] at k0
        split at k0 <;> simp at k0
    subst hs
    refine ⟨b, o, rfl, fun i xs hx => ?_⟩
    have k := h.cells _ rfl i xs hx
    rw [Addr.add_lit] at k
    exact k
def IsMat (W : World) (a : Option Addr) (len cap : Nat) (rows : List (List Int)) : Prop :=
  rows.length = len ∧ len ≤ 9223372036854775807 ∧ (∃ R, RowR W a cap R rows) ∧ ∀ xs ∈ rows, xs.length ≤ 9223372036854775807 ∧ ∀ x ∈ xs, -9223372036854775808 ≤ x ∧ x ≤ 9223372036854775807
theorem rows_at {len : Nat} {L : Nat → Nat} {Z : Nat → List Int} {i : Nat} {xs : List Int} (h : ((List.range len).map fun r => (Z r).take (L r))[i]? = some xs) : i < len ∧ xs = (Z i).take (L i) := by
  have hi : i < len := by have := (List.getElem?_eq_some_iff.1 h).1; simpa using this
  rw [List.getElem?_map, List.getElem?_range hi] at h
  exact ⟨hi, by simpa using h.symm⟩
theorem mat_open {H : Type} {enc : TypeId × Value → H} {W : World} {fuel : Nat} {a : Option Addr} {len cap : Nat} {x : DataW H × List MemPlace}
    (hf : DataW.trod enc Try.prog W 0 (fun _ => true) true fuel 33 [.slice a len cap] = some x) : ∃ rows, IsMat W a len cap rows := by
  rcases Go.Deep.open_int_rows Try.underlying33 Try.underlying23 Try.underlying3 (by kernel_rfl) (by kernel_rfl) hf with ⟨hcs, _⟩ | ⟨ad, l, c, A, L, C, Z, hcs, _, hl, hm, _, hc⟩
  · simp at hcs
    obtain ⟨rfl, rfl, rfl⟩ := hcs
    exact ⟨[], rfl, by omega, ⟨fun _ => (none, 0), ⟨fun _ => ⟨rfl, rfl⟩, (fun ad e => by cases e), (fun i xs h => by simp at h), by simp⟩⟩, by simp⟩
  · simp at hcs
    obtain ⟨rfl, rfl, rfl⟩ := hcs
    unfold maxLen at hm
    have hlen : ∀ i, i < len → ((Z i).take (L i)).length = L i := fun i hi => by
      obtain ⟨_, h2, _, h4, _⟩ := hc i (by omega)
      rw [List.length_take]; omega
    refine ⟨(List.range len).map fun r => (Z r).take (L r), by simp, by omega, ⟨fun i => (A i, C i), ⟨(fun e => by cases e), fun ad' e i xs hx => ?_, fun i xs hx => ?_, by simp; omega⟩⟩, fun xs hx => ?_⟩
    · cases e
      obtain ⟨hi, rfl⟩ := rows_at hx
      rw [hlen i hi]
      exact (hc i (by omega)).1
    · obtain ⟨hi, rfl⟩ := rows_at hx
      obtain ⟨_, h2, h3, h4, h5, h6, h7⟩ := hc i (by omega)
      refine ⟨fun e => ?_, fun ad' e j u hu => ?_, by rw [hlen i hi]; exact h2⟩
      · have := h6 e
        exact ⟨List.eq_nil_of_length_eq_zero (by rw [hlen i hi]; omega), this⟩
      · have hj : j < L i := by
          have := (List.getElem?_eq_some_iff.1 hu).1
          rw [inV_len, hlen i hi] at this; exact this
        have e1 := (h7 ad' e).2 j (by omega)
        rw [e1]
        have hg : (Z i)[j]? = some ((Z i).getD j 0) := by rw [List.getD_eq_getElem?_getD, List.getElem?_eq_getElem (by omega)]; rfl
        simp only [inV, List.getElem?_map, List.getElem?_take, if_pos hj, hg, Option.map_some] at hu
        exact hu
    · obtain ⟨i, hi'⟩ := List.getElem?_of_mem hx
      obtain ⟨hi, rfl⟩ := rows_at hi'
      clear hi'
      obtain ⟨_, h2, h3, h4, h5, h6, h7⟩ := hc i (by omega)
      unfold maxLen at h3
      exact ⟨by rw [hlen i hi]; omega, fun x hx => wf64 (h5 x (List.mem_of_mem_take hx))⟩
section
set_option maxHeartbeats 1600000
theorem idx_rows (g : Nat) (lb : Array Value) (eg : ∀ args w, (callFunc g args).run Try.prog w = .ok (.enter g args) w) (p : List Int → Bool) (a : Option Addr) (c : Nat) (R : Nat → Option Addr × Nat) (rows : List (List Int)) (w : World) (L : Nat) (h : RowR w a c R rows) (hL : rows.length = L) (hl : L ≤ 9223372036854775807)
    (hp : ∀ W a c xs, Below w.heap.size w W → xs ∈ rows → RowL W a c xs → Calls Try.prog g (#[.slice a xs.length c] ++ lb) W fun e w' => e = .returned (.bool (p xs)) ∧ Below W.heap.size W w') :
    Calls Try.prog 52 #[.slice a L c, .func (.func g) #[] lb] w fun e w' => (∃ r : Int, e = .returned (.int .i64 r) ∧ decide (0 ≤ r) = rows.any p) ∧ Below w.heap.size w w' := by
  have HP := Lib.hid hp
  have HR := Lib.hid h
  have HL := Lib.hid hL
  clear hL h hp
  go_enter Try.func52, Try.ntmps52
  go_wp2
  go_loopw [8] (fun i wr => ∃ I : Nat, i = .int .i64 I ∧ I ≤ L ∧ Hid (∀ (j : Nat) x, j < I → rows[j]? = some x → p x = false) ∧ Below w.heap.size w wr) (fun i _ => L - (intOf i).toNat)
  case atStart => exact ⟨0, rfl, by omega, Lib.hid (fun j x h => absurd h (Nat.not_lt_zero _)), Below.refl _ _⟩
  case round =>
    obtain ⟨I, rfl, hI, HA, hb⟩ := hrel
    by_cases hlt : I < L
    · obtain ⟨x, hx⟩ : ∃ x, rows[I]? = some x := ⟨_, List.getElem?_eq_getElem (by rw [HL.out]; exact hlt)⟩
      have hx2 := List.mem_of_getElem? hx
      have hrr := HR.out.below hb (Nat.le_refl _)
      obtain ⟨b, o, rfl, hc⟩ := hrr.shape (by rw [HL.out]; omega)
      have kx := hc I x hx
      have HC := Lib.hid (HP.out wr (R I).1 (R I).2 x hb hx2 (hrr.row I x hx))
      have HXI := Lib.hid hx
      have HB := Lib.hid hb
      clear hx hc hb hrr
      obtain ⟨q, hq⟩ : ∃ q, p x = q := ⟨_, rfl⟩
      rw [hq] at HC
      have HQ := Lib.hid hq
      clear hq
      cases q with
      | true =>
        go_wp2_with (go_at_fn g; refine HC.out.mono ?_; rintro e w' ⟨rfl, hb'⟩)
        go_ret
        refine ⟨⟨_, rfl, ?_⟩, below_two HB.out hb'⟩
        rw [decide_eq_true (by omega : (0 : Int) ≤ (I : Int))]
        symm
        exact List.any_eq_true.2 ⟨x, List.mem_of_getElem? HXI.out, HQ.out⟩
      | false =>
        go_wp2_with (go_at_fn g; refine HC.out.mono ?_; rintro e w' ⟨rfl, hb'⟩)
        go_round
        case rel =>
          refine ⟨I + 1, by go_num, by omega, Lib.hid (fun j y hj hy => ?_), below_two HB.out hb'⟩
          by_cases e : j = I
          · subst e
            have := HXI.out
            rw [hy] at this
            rw [Option.some.inj this]; exact HQ.out
          · exact HA.out j y (by omega) hy
        case measure => simp [intOf]; omega
    · go_wp2
      go_ret
      refine ⟨⟨_, rfl, ?_⟩, hb⟩
      symm
      rw [decide_eq_false (by omega), Bool.eq_false_iff]
      intro hany
      obtain ⟨x, hm, hpx⟩ := List.any_eq_true.1 hany
      obtain ⟨j, hj⟩ := List.getElem?_of_mem hm
      have := HA.out j x (by have := (List.getElem?_eq_some_iff.1 hj).1; have := HL.out; omega) hj
      rw [hpx] at this; cases this
theorem contains_rows (g : Nat) (lb : Array Value) (eg : ∀ args w, (callFunc g args).run Try.prog w = .ok (.enter g args) w) (p : List Int → Bool) (a : Option Addr) (c : Nat) (R : Nat → Option Addr × Nat) (rows : List (List Int)) (w : World) (L : Nat) (h : RowR w a c R rows) (hL : rows.length = L) (hl : L ≤ 9223372036854775807)
    (hp : ∀ W a c xs, Below w.heap.size w W → xs ∈ rows → RowL W a c xs → Calls Try.prog g (#[.slice a xs.length c] ++ lb) W fun e w' => e = .returned (.bool (p xs)) ∧ Below W.heap.size W w') :
    Calls Try.prog 42 #[.slice a L c, .func (.func g) #[] lb] w fun e w' => e = .returned (.bool (rows.any p)) ∧ Below w.heap.size w w' := by
  have HI := Lib.hid (idx_rows g lb eg p a c R rows w L h hL hl hp)
  obtain ⟨q, hq⟩ : ∃ q, rows.any p = q := ⟨_, rfl⟩
  rw [hq] at HI ⊢
  clear hq h hp hL
  go_enter Try.func42, Try.ntmps42
  go_wp2_with fail
  refine HI.out.mono ?_
  rintro e w' ⟨⟨r, rfl, hr⟩, hb⟩
  have HRR := Lib.hid hr
  clear hr
  go_wp2
  go_ret
  exact ⟨by rw [← HRR.out]; rfl, hb⟩
end
end Go.Proofs.Ytabhmhojlhagcaa

/- Rows of ints of 64 bits behind an address; IndexFunc, ContainsFunc over them. -/
import Derived.Test.YtceocooppjfjjaaOwnG
import Derived.Test.YtceocooppjfjjaaEu
import Derived.Shelf.Abstract
namespace Go.Proofs.Ytceocooppjfjjaa
open Go.RowKit
set_option linter.unusedVariables false
set_option linter.unusedSimpArgs false
/-- ints as values -/
def inV (l : List Int) : List Value := l.map (Value.int .i64)
theorem inV_set (l : List Int) (i : Nat) (v : Int) : inV (l.set i v) = (inV l).set i (.int .i64 v) := by simp [inV, List.map_set]
theorem inV_len (l : List Int) : (inV l).length = l.length := by simp [inV]
theorem inV_one (l : List Int) : ∀ u ∈ inV l, u.oneCell' = true := by
  intro u hu; simp [inV] at hu; obtain ⟨x, _, rfl⟩ := hu; rfl
/-- a row of ints behind an address -/
def RowL (W : World) (a : Option Addr) (c : Nat) (xs : List Int) : Prop := (a = none → xs = [] ∧ c = 0) ∧ (∀ ad, a = some ad → ∀ (j : Nat) (u : Value), (inV xs)[j]? = some u → W.cell? (ad.add j) = some u) ∧ xs.length ≤ c
theorem RowL.below {W W' : World} {a : Option Addr} {c : Nat} {xs : List Int} (h : RowL W a c xs) {B : Nat} (hb : Below B W W') (hB : W.heap.size ≤ B) : RowL W' a c xs :=
  ⟨h.1, fun ad e j u hu => by
    have k := h.2.1 ad e j u hu
    exact (hb.cell (p := ad.add j) (Nat.lt_of_lt_of_le (World.block_lt_of_cell? W _ k) hB)).trans k, h.2.2⟩
theorem RowL.shape {W : World} {a : Option Addr} {c : Nat} {xs : List Int} (h : RowL W a c xs) (hne : 0 < xs.length) :
    ∃ b o, a = some ⟨b, o, none⟩ ∧ ∀ (j : Nat) (x : Int), xs[j]? = some x → W.cell? ⟨b, o + j, none⟩ = some (.int .i64 x) := by
  rcases a with _ | ⟨b, o, s⟩
  · have := (h.1 rfl).1; subst this; simp at hne
  · have k0 := h.2.1 _ rfl 0 (.int .i64 xs[0]) (by simp [inV, hne])
    have hs : s = none := by
      cases s with
      | none => rfl
      | some y =>
        simp [World.cell?, Addr.add] at k0
        split at k0 <;> simp at k0
    subst hs
    refine ⟨b, o, rfl, fun j x hx => ?_⟩
    have k := h.2.1 _ rfl j (.int .i64 x) (by simp [inV, hx])
    rw [Addr.add_lit] at k
    exact k
theorem RowL.nil (W : World) : RowL W none 0 [] := ⟨fun _ => ⟨rfl, rfl⟩, (fun ad e => by cases e), Nat.le_refl _⟩
theorem RowL.take {W : World} {a : Option Addr} {c : Nat} {xs : List Int} (h : RowL W a c xs) (k : Nat) : RowL W a c (xs.take k) :=
  ⟨fun e => by
    have := h.1 e
    rw [this.1]; exact ⟨List.take_nil, this.2⟩, (fun ad e j u hu => by
    refine h.2.1 ad e j u ?_
    simp only [inV, List.getElem?_map, List.getElem?_take] at hu ⊢
    split at hu
    · exact hu
    · cases hu), by have := h.2.2; rw [List.length_take]; omega⟩
theorem row_ownL {W : World} {base g k cap : Nat} {xs : List Int} (h : W.ownsRow base 2 1 (.slice (some ⟨g, 0, none⟩) k cap) k (inV xs)) : RowL W (some ⟨g, 0, none⟩) cap xs := by
  refine ⟨fun e => (by cases e), fun ad e j u hu => ?_, ?_⟩
  · cases e
    rw [add_at]
    exact own_cell h hu
  · have h1 := own_len h
    rw [inV_len] at h1
    obtain ⟨_, _, _, h4, _⟩ := own_heap h
    omega
theorem own_rowL {W : World} {base : Nat} {v : Value} {xs : List Int} (h : W.ownsRow base 2 1 v xs.length (inV xs)) : ∃ a c, v = .slice a xs.length c ∧ RowL W a c xs := by
  rcases h.2 with ⟨h1, h2⟩ | ⟨g, cap, cur, rfl, _⟩
  · have : xs = [] := List.length_eq_zero_iff.1 h2
    subst this
    exact ⟨none, 0, h1, RowL.nil _⟩
  · exact ⟨_, cap, rfl, row_ownL h⟩
/-- a slice of numbers that came in -/
def IsRow (k : IntKind) (W : World) (a : Option Addr) (len cap : Nat) (zs : List Int) : Prop :=
  (a = none ∧ len = 0 ∧ cap = 0 ∧ zs = []) ∨ ∃ ad, a = some ad ∧ len ≤ cap ∧ cap ≤ maxLen ∧ zs.length = cap ∧ (∀ i, i < zs.length → W.cell? (ad.add i) = some (.int k (zs.getD i 0))) ∧ (∀ n ∈ zs, (Lit.int k n).wf = true)
theorem IsRow.longs {W : World} {a : Option Addr} {len cap : Nat} {zs : List Int} (h : IsRow .i64 W a len cap zs) : ∃ xs : List Int, xs.length = len ∧ RowL W a cap xs ∧ (∀ x ∈ xs, -9223372036854775808 ≤ x ∧ x ≤ 9223372036854775807) ∧ len ≤ maxLen := by
  rcases h with ⟨rfl, rfl, rfl, rfl⟩ | ⟨ad, rfl, hl, hm, hz, hc, hw⟩
  · exact ⟨[], rfl, RowL.nil _, fun x hx => by simp at hx, by unfold maxLen; omega⟩
  · refine ⟨zs.take len, by simp; omega, ⟨fun e => (by cases e), fun ad' e j u hu => ?_, by simp; omega⟩, fun x hx => wf64 (hw x (List.mem_of_mem_take hx)), Nat.le_trans hl hm⟩
    cases e
    have hj : j < len := by
      have := (List.getElem?_eq_some_iff.1 hu).1
      simp [inV] at this; omega
    have e1 := hc j (by omega)
    rw [e1]
    have hg : zs[j]? = some (zs.getD j 0) := by rw [List.getD_eq_getElem?_getD, List.getElem?_eq_getElem (by omega)]; rfl
    simp only [inV, List.getElem?_map, List.getElem?_take, if_pos hj, hg, Option.map_some] at hu
    exact hu
set_option maxHeartbeats 1600000 in
theorem idx_longsB (g : Nat) (lb : Array Value) (eg : ∀ args w, (callFunc g args).run Try.prog w = .ok (.enter g args) w) (p : Int → Bool) (a : Option Addr) (c : Nat) (xs : List Int) (w : World) (h : RowL w a c xs) (hl : xs.length ≤ 4611686018427387904) 
    (hp : ∀ W x, Below w.heap.size w W → x ∈ xs → Calls Try.prog g (#[.int .i64 x] ++ lb) W fun e w' => e = .returned (.bool (p x)) ∧ Below W.heap.size W w') :
    Calls Try.prog 88 #[.slice a xs.length c, .func (.func g) #[] lb] w fun e w' => (∃ r : Int, e = .returned (.int .i64 r) ∧ decide (0 ≤ r) = xs.any p) ∧ Below w.heap.size w w' := by
  have HP := Lib.hid hp
  have HR := Lib.hid h
  obtain ⟨L, hL⟩ : ∃ L, L = xs.length := ⟨_, rfl⟩
  have HL := Lib.hid hL
  rw [← hL] at hl ⊢
  clear hL h hp
  go_enter Try.func88, Try.ntmps88
  go_wp2
  go_loopw [8] (fun i wr => ∃ I : Nat, i = .int .i64 I ∧ I ≤ L ∧ Hid (∀ j x, j < I → xs[j]? = some x → p x = false) ∧ Below w.heap.size w wr) (fun i _ => L - (intOf i).toNat)
  case atStart => exact ⟨0, rfl, by omega, Lib.hid (fun j x h => absurd h (Nat.not_lt_zero _)), Below.refl _ _⟩
  case round =>
    obtain ⟨I, rfl, hI, HA, hb⟩ := hrel
    by_cases hlt : I < L
    · obtain ⟨x, hx⟩ : ∃ x, xs[I]? = some x := ⟨_, List.getElem?_eq_getElem (by rw [← HL.out]; exact hlt)⟩
      have hx2 := List.mem_of_getElem? hx
      obtain ⟨b, o, rfl, hc⟩ := (HR.out.below hb (Nat.le_refl _)).shape (by rw [← HL.out]; omega)
      have kx := hc I x hx
      have HC := Lib.hid (HP.out wr x hb hx2)
      have HXI := Lib.hid hx
      have HB := Lib.hid hb
      clear hx hc hb
      obtain ⟨q, hq⟩ : ∃ q, p x = q := ⟨_, rfl⟩
      rw [hq] at HC
      have HQ := Lib.hid hq
      clear hq
      cases q with
      | true =>
        go_wp2_with (go_at_fn g; refine HC.out.mono ?_; rintro e w' ⟨rfl, hb'⟩)
        go_ret
        refine ⟨⟨_, rfl, ?_⟩, below_two HB.out hb'⟩
        rw [decide_eq_true (by omega : (0 : Int) ≤ (I : Int))]
        symm
        exact List.any_eq_true.2 ⟨x, List.mem_of_getElem? HXI.out, HQ.out⟩
      | false =>
        go_wp2_with (go_at_fn g; refine HC.out.mono ?_; rintro e w' ⟨rfl, hb'⟩)
        go_round
        case rel =>
          refine ⟨I + 1, by go_num, by omega, Lib.hid (fun j y hj hy => ?_), below_two HB.out hb'⟩
          by_cases e : j = I
          · subst e
            have := HXI.out
            rw [hy] at this
            rw [Option.some.inj this]; exact HQ.out
          · exact HA.out j y (by omega) hy
        case measure => simp [intOf]; omega
    · go_wp2
      go_ret
      refine ⟨⟨_, rfl, ?_⟩, hb⟩
      symm
      rw [decide_eq_false (by omega), Bool.eq_false_iff]
      intro hany
      obtain ⟨x, hm, hpx⟩ := List.any_eq_true.1 hany
      obtain ⟨j, hj⟩ := List.getElem?_of_mem hm
      have := HA.out j x (by have := (List.getElem?_eq_some_iff.1 hj).1; have := HL.out; omega) hj
      rw [hpx] at this; cases this
theorem contains_longsB (g : Nat) (lb : Array Value) (eg : ∀ args w, (callFunc g args).run Try.prog w = .ok (.enter g args) w) (p : Int → Bool) (a : Option Addr) (c : Nat) (xs : List Int) (w : World) (h : RowL w a c xs) (hl : xs.length ≤ 4611686018427387904) 
    (hp : ∀ W x, Below w.heap.size w W → x ∈ xs → Calls Try.prog g (#[.int .i64 x] ++ lb) W fun e w' => e = .returned (.bool (p x)) ∧ Below W.heap.size W w') :
    Calls Try.prog 72 #[.slice a xs.length c, .func (.func g) #[] lb] w fun e w' => e = .returned (.bool (xs.any p)) ∧ Below w.heap.size w w' := by
  have HI := Lib.hid (idx_longsB g lb eg p a c xs w h hl hp)
  obtain ⟨L, hL⟩ : ∃ L, L = xs.length := ⟨_, rfl⟩
  rw [← hL] at HI ⊢
  obtain ⟨B, hB⟩ : ∃ B, xs.any p = B := ⟨_, rfl⟩
  rw [hB] at HI ⊢
  clear hL h hl hp eg hB
  go_enter Try.func72, Try.ntmps72
  go_wp2_with fail
  refine HI.out.mono ?_
  rintro e w1 ⟨⟨r, rfl, hr⟩, hb⟩
  have HRr := Lib.hid hr
  clear hr
  go_wp2
  go_ret
  exact ⟨ret_bool HRr.out, hb⟩
theorem idx_longs (g : Nat) (lb : Array Value) (eg : ∀ args w, (callFunc g args).run Try.prog w = .ok (.enter g args) w) (p : Int → Bool) (a : Option Addr) (c : Nat) (xs : List Int) (w : World) (h : RowL w a c xs) (hl : xs.length ≤ 1048576) 
    (hp : ∀ W x, Below w.heap.size w W → x ∈ xs → Calls Try.prog g (#[.int .i64 x] ++ lb) W fun e w' => e = .returned (.bool (p x)) ∧ Below W.heap.size W w') :
    Calls Try.prog 88 #[.slice a xs.length c, .func (.func g) #[] lb] w fun e w' => (∃ r : Int, e = .returned (.int .i64 r) ∧ decide (0 ≤ r) = xs.any p) ∧ Below w.heap.size w w' :=
  idx_longsB g lb eg p a c xs w h (Nat.le_trans hl (by decide)) hp
theorem contains_longs (g : Nat) (lb : Array Value) (eg : ∀ args w, (callFunc g args).run Try.prog w = .ok (.enter g args) w) (p : Int → Bool) (a : Option Addr) (c : Nat) (xs : List Int) (w : World) (h : RowL w a c xs) (hl : xs.length ≤ 1048576) 
    (hp : ∀ W x, Below w.heap.size w W → x ∈ xs → Calls Try.prog g (#[.int .i64 x] ++ lb) W fun e w' => e = .returned (.bool (p x)) ∧ Below W.heap.size W w') :
    Calls Try.prog 72 #[.slice a xs.length c, .func (.func g) #[] lb] w fun e w' => e = .returned (.bool (xs.any p)) ∧ Below w.heap.size w w' :=
  contains_longsB g lb eg p a c xs w h (Nat.le_trans hl (by decide)) hp
end Go.Proofs.Ytceocooppjfjjaa

/- Merged: XRowLg XExt XRelP XExt2. -/
import Derived.Test.YtkodhpjmmiapaaaOwn
import Derived.Test.YtkodhpjmmiapaaaPad
import Derived.Test.YtkodhpjmmiapaaaRF
import Derived.Shelf.Abstract
import Derived.Test.YtkodhpjmmiapaaaSqB
import Derived.Test.YtkodhpjmmiapaaaSqC
import Derived.Test.YtkodhpjmmiapaaaRelM
/- Rows of ints of 64 bits behind an address; IndexFunc, ContainsFunc over them. -/
namespace Go.Proofs.Ytkodhpjmmiapaaa
open Go.RowKit
set_option linter.unusedVariables false
set_option linter.unusedSimpArgs false
/-- ints as values -/
def inV (l : List Int) : List Value := l.map (Value.int .i64)
theorem inV_set (l : List Int) (i : Nat) (v : Int) : inV (l.set i v) = (inV l).set i (.int .i64 v) := by simp [inV, List.map_set]
theorem inV_len (l : List Int) : (inV l).length = l.length := by simp [inV]
theorem inV_one (l : List Int) : ∀ u ∈ inV l, u.oneCell' = true := by
  intro u hu; simp [inV] at hu; obtain ⟨x, _, rfl⟩ := hu; rfl
/-- a row of ints behind an address -/
def RowL (W : World) (a : Option Addr) (c : Nat) (xs : List Int) : Prop := (a = none → xs = [] ∧ c = 0) ∧ (∀ ad, a = some ad → ∀ (j : Nat) (u : Value), (inV xs)[j]? = some u → W.cell? (ad.add j) = some u) ∧ xs.length ≤ c
theorem RowL.below {W W' : World} {a : Option Addr} {c : Nat} {xs : List Int} (h : RowL W a c xs) {B : Nat} (hb : Below B W W') (hB : W.heap.size ≤ B) : RowL W' a c xs :=
  ⟨h.1, fun ad e j u hu => by
    have k := h.2.1 ad e j u hu
    exact (hb.cell (p := ad.add j) (Nat.lt_of_lt_of_le (World.block_lt_of_cell? W _ k) hB)).trans k, h.2.2⟩
theorem RowL.shape {W : World} {a : Option Addr} {c : Nat} {xs : List Int} (h : RowL W a c xs) (hne : 0 < xs.length) :
    ∃ b o, a = some ⟨b, o, none⟩ ∧ ∀ (j : Nat) (x : Int), xs[j]? = some x → W.cell? ⟨b, o + j, none⟩ = some (.int .i64 x) := by
  rcases a with _ | ⟨b, o, s⟩
  · have := (h.1 rfl).1; subst this; simp at hne
  · have k0 := h.2.1 _ rfl 0 (.int .i64 xs[0]) (by simp [inV, hne])
    have hs : s = none := by
      cases s with
      | none => rfl
      | some y =>
        simp [World.cell?, Addr.add] at k0
        split at k0 <;> simp at k0
    subst hs
    refine ⟨b, o, rfl, fun j x hx => ?_⟩
    have k := h.2.1 _ rfl j (.int .i64 x) (by simp [inV, hx])
    rw [Addr.add_lit] at k
    exact k
theorem RowL.nil (W : World) : RowL W none 0 [] := ⟨fun _ => ⟨rfl, rfl⟩, (fun ad e => by cases e), Nat.le_refl _⟩
theorem RowL.take {W : World} {a : Option Addr} {c : Nat} {xs : List Int} (h : RowL W a c xs) (k : Nat) : RowL W a c (xs.take k) :=
  ⟨fun e => by
    have := h.1 e
    rw [this.1]; exact ⟨List.take_nil, this.2⟩, (fun ad e j u hu => by
    refine h.2.1 ad e j u ?_
    simp only [inV, List.getElem?_map, List.getElem?_take] at hu ⊢
    split at hu
    · exact hu
    · cases hu), by have := h.2.2; rw [List.length_take]; omega⟩
theorem row_ownL {W : World} {base g k cap : Nat} {xs : List Int} (h : W.ownsRow base 2 1 (.slice (some ⟨g, 0, none⟩) k cap) k (inV xs)) : RowL W (some ⟨g, 0, none⟩) cap xs := by
  refine ⟨fun e => (by cases e), fun ad e j u hu => ?_, ?_⟩
  · cases e
    rw [add_at]
    exact own_cell h hu
  · have h1 := own_len h
    rw [inV_len] at h1
    obtain ⟨_, _, _, h4, _⟩ := own_heap h
    omega
theorem own_rowL {W : World} {base : Nat} {v : Value} {xs : List Int} (h : W.ownsRow base 2 1 v xs.length (inV xs)) : ∃ a c, v = .slice a xs.length c ∧ RowL W a c xs := by
  rcases h.2 with ⟨h1, h2⟩ | ⟨g, cap, cur, rfl, _⟩
  · have : xs = [] := List.length_eq_zero_iff.1 h2
    subst this
    exact ⟨none, 0, h1, RowL.nil _⟩
  · exact ⟨_, cap, rfl, row_ownL h⟩
/-- a slice of numbers that came in -/
theorem IsRow.longs {W : World} {a : Option Addr} {len cap : Nat} {zs : List Int} (h : IsRow .i64 W a len cap zs) : ∃ xs : List Int, xs.length = len ∧ RowL W a cap xs ∧ (∀ x ∈ xs, -9223372036854775808 ≤ x ∧ x ≤ 9223372036854775807) ∧ len ≤ maxLen := by
  rcases h with ⟨rfl, rfl, rfl, rfl⟩ | ⟨ad, rfl, hl, hm, hz, hc, hw⟩
  · exact ⟨[], rfl, RowL.nil _, fun x hx => by simp at hx, by unfold maxLen; omega⟩
  · refine ⟨zs.take len, by simp; omega, ⟨fun e => (by cases e), fun ad' e j u hu => ?_, by simp; omega⟩, fun x hx => wf64 (hw x (List.mem_of_mem_take hx)), Nat.le_trans hl hm⟩
    cases e
    have hj : j < len := by
      have := (List.getElem?_eq_some_iff.1 hu).1
      simp [inV] at this; omega
    have e1 := hc j (by omega)
    rw [e1]
    have hg : zs[j]? = some (zs.getD j 0) := by rw [List.getD_eq_getElem?_getD, List.getElem?_eq_getElem (by omega)]; rfl
    simp only [inV, List.getElem?_map, List.getElem?_take, if_pos hj, hg, Option.map_some] at hu
    exact hu
set_option maxHeartbeats 1600000 in
theorem idx_longsB (g : Nat) (lb : Array Value) (eg : ∀ args w, (callFunc g args).run Try.prog w = .ok (.enter g args) w) (p : Int → Bool) (a : Option Addr) (c : Nat) (xs : List Int) (w : World) (h : RowL w a c xs) (hl : xs.length ≤ 4611686018427387904) 
    (hp : ∀ W x, Below w.heap.size w W → x ∈ xs → Calls Try.prog g (#[.int .i64 x] ++ lb) W fun e w' => e = .returned (.bool (p x)) ∧ Below W.heap.size W w') :
    Calls Try.prog 19 #[.slice a xs.length c, .func (.func g) #[] lb] w fun e w' => (∃ r : Int, e = .returned (.int .i64 r) ∧ decide (0 ≤ r) = xs.any p) ∧ Below w.heap.size w w' := by
  have HP := Lib.hid hp
  have HR := Lib.hid h
  obtain ⟨L, hL⟩ : ∃ L, L = xs.length := ⟨_, rfl⟩
  have HL := Lib.hid hL
  rw [← hL] at hl ⊢
  clear hL h hp
  go_enter Try.func19, Try.ntmps19
  go_wp2
  go_loopw [8] (fun i wr => ∃ I : Nat, i = .int .i64 I ∧ I ≤ L ∧ Hid (∀ j x, j < I → xs[j]? = some x → p x = false) ∧ Below w.heap.size w wr) (fun i _ => L - (intOf i).toNat)
  case atStart => exact ⟨0, rfl, by omega, Lib.hid (fun j x h => absurd h (Nat.not_lt_zero _)), Below.refl _ _⟩
  case round =>
    obtain ⟨I, rfl, hI, HA, hb⟩ := hrel
    by_cases hlt : I < L
    · obtain ⟨x, hx⟩ : ∃ x, xs[I]? = some x := ⟨_, List.getElem?_eq_getElem (by rw [← HL.out]; exact hlt)⟩
      have hx2 := List.mem_of_getElem? hx
      obtain ⟨b, o, rfl, hc⟩ := (HR.out.below hb (Nat.le_refl _)).shape (by rw [← HL.out]; omega)
      have kx := hc I x hx
      have HC := Lib.hid (HP.out wr x hb hx2)
      have HXI := Lib.hid hx
      have HB := Lib.hid hb
      clear hx hc hb
      obtain ⟨q, hq⟩ : ∃ q, p x = q := ⟨_, rfl⟩
      rw [hq] at HC
      have HQ := Lib.hid hq
      clear hq
      cases q with
      | true =>
        go_wp2_with (go_at_fn g; refine HC.out.mono ?_; rintro e w' ⟨rfl, hb'⟩)
        go_ret
        refine ⟨⟨_, rfl, ?_⟩, below_two HB.out hb'⟩
        rw [decide_eq_true (by omega : (0 : Int) ≤ (I : Int))]
        symm
        exact List.any_eq_true.2 ⟨x, List.mem_of_getElem? HXI.out, HQ.out⟩
      | false =>
        go_wp2_with (go_at_fn g; refine HC.out.mono ?_; rintro e w' ⟨rfl, hb'⟩)
        go_round
        case rel =>
          refine ⟨I + 1, by go_num, by omega, Lib.hid (fun j y hj hy => ?_), below_two HB.out hb'⟩
          by_cases e : j = I
          · subst e
            have := HXI.out
            rw [hy] at this
            rw [Option.some.inj this]; exact HQ.out
          · exact HA.out j y (by omega) hy
        case measure => simp [intOf]; omega
    · go_wp2
      go_ret
      refine ⟨⟨_, rfl, ?_⟩, hb⟩
      symm
      rw [decide_eq_false (by omega), Bool.eq_false_iff]
      intro hany
      obtain ⟨x, hm, hpx⟩ := List.any_eq_true.1 hany
      obtain ⟨j, hj⟩ := List.getElem?_of_mem hm
      have := HA.out j x (by have := (List.getElem?_eq_some_iff.1 hj).1; have := HL.out; omega) hj
      rw [hpx] at this; cases this
theorem contains_longsB (g : Nat) (lb : Array Value) (eg : ∀ args w, (callFunc g args).run Try.prog w = .ok (.enter g args) w) (p : Int → Bool) (a : Option Addr) (c : Nat) (xs : List Int) (w : World) (h : RowL w a c xs) (hl : xs.length ≤ 4611686018427387904) 
    (hp : ∀ W x, Below w.heap.size w W → x ∈ xs → Calls Try.prog g (#[.int .i64 x] ++ lb) W fun e w' => e = .returned (.bool (p x)) ∧ Below W.heap.size W w') :
    Calls Try.prog 9 #[.slice a xs.length c, .func (.func g) #[] lb] w fun e w' => e = .returned (.bool (xs.any p)) ∧ Below w.heap.size w w' := by
  have HI := Lib.hid (idx_longsB g lb eg p a c xs w h hl hp)
  obtain ⟨L, hL⟩ : ∃ L, L = xs.length := ⟨_, rfl⟩
  rw [← hL] at HI ⊢
  obtain ⟨B, hB⟩ : ∃ B, xs.any p = B := ⟨_, rfl⟩
  rw [hB] at HI ⊢
  clear hL h hl hp eg hB
  go_enter Try.func9, Try.ntmps9
  go_wp2_with fail
  refine HI.out.mono ?_
  rintro e w1 ⟨⟨r, rfl, hr⟩, hb⟩
  have HRr := Lib.hid hr
  clear hr
  go_wp2
  go_ret
  exact ⟨ret_bool HRr.out, hb⟩
theorem idx_longs (g : Nat) (lb : Array Value) (eg : ∀ args w, (callFunc g args).run Try.prog w = .ok (.enter g args) w) (p : Int → Bool) (a : Option Addr) (c : Nat) (xs : List Int) (w : World) (h : RowL w a c xs) (hl : xs.length ≤ 1048576) 
    (hp : ∀ W x, Below w.heap.size w W → x ∈ xs → Calls Try.prog g (#[.int .i64 x] ++ lb) W fun e w' => e = .returned (.bool (p x)) ∧ Below W.heap.size W w') :
    Calls Try.prog 19 #[.slice a xs.length c, .func (.func g) #[] lb] w fun e w' => (∃ r : Int, e = .returned (.int .i64 r) ∧ decide (0 ≤ r) = xs.any p) ∧ Below w.heap.size w w' :=
  idx_longsB g lb eg p a c xs w h (Nat.le_trans hl (by decide)) hp
theorem contains_longs (g : Nat) (lb : Array Value) (eg : ∀ args w, (callFunc g args).run Try.prog w = .ok (.enter g args) w) (p : Int → Bool) (a : Option Addr) (c : Nat) (xs : List Int) (w : World) (h : RowL w a c xs) (hl : xs.length ≤ 1048576) 
    (hp : ∀ W x, Below w.heap.size w W → x ∈ xs → Calls Try.prog g (#[.int .i64 x] ++ lb) W fun e w' => e = .returned (.bool (p x)) ∧ Below W.heap.size W w') :
    Calls Try.prog 9 #[.slice a xs.length c, .func (.func g) #[] lb] w fun e w' => e = .returned (.bool (xs.any p)) ∧ Below w.heap.size w w' :=
  contains_longsB g lb eg p a c xs w h (Nat.le_trans hl (by decide)) hp
end Go.Proofs.Ytkodhpjmmiapaaa

/- (*relay.way).extend. -/
namespace Go.Proofs.Ytkodhpjmmiapaaa
open Go.RowKit
set_option linter.unusedVariables false
set_option linter.unusedSimpArgs false
def kvV (ks : List Nat) : List Value := ks.map fun (n : Nat) => Value.int .i64 (n : Int)
theorem own_any {W : World} {base k : Nat} {v : Value} {e : TypeId} {xs : List Value} (h : W.ownsRow base e 1 v k xs) : ∃ a c, v = .slice a k c ∧ ∀ (i : Nat) (u : Value), xs[i]? = some u → ∃ g, a = some ⟨g, 0, none⟩ ∧ base ≤ g ∧ W.cell? ⟨g, i, none⟩ = some u := by
  by_cases hk : 0 < k
  · obtain ⟨g, cap, rfl, hg, _, _, _⟩ := own_shape h hk
    exact ⟨_, cap, rfl, fun i u hu => ⟨g, rfl, hg, own_cell h hu⟩⟩
  · obtain rfl : k = 0 := by omega
    have hl := own_len h
    obtain rfl := List.eq_nil_of_length_eq_zero hl
    rcases h.2 with ⟨h1, h2⟩ | ⟨g, cap, cur, h1, _⟩
    · exact ⟨none, 0, h1, fun i u hu => by simp at hu⟩
    · exact ⟨_, cap, h1, fun i u hu => by simp at hu⟩
/-- the key that two make -/
noncomputable def keyN (P G s k l : Int) : Nat := sumN (1 :: shkN (pw G k P) (pw G l P) (pw G s P) (pw (pw G k P) s P) (pw (pw G k P) l P))
theorem keyN_lt (P G s k l : Int) : keyN P G s k l < 65536 := sumN_lt _
/-- a way that may be made longer -/
structure WayX (W : World) (wb : Nat) (P Q G H : Int) (sa : Option Addr) (sc : Nat) (S : List Int) (kv : Value) (ks : List Nat) : Prop where
  g0 : W.cell? ⟨wb, 0, none⟩ = some (.int .i64 P)
  g1 : W.cell? ⟨wb, 1, none⟩ = some (.int .i64 Q)
  g2 : W.cell? ⟨wb, 2, none⟩ = some (.int .i64 G)
  g3 : W.cell? ⟨wb, 3, none⟩ = some (.int .i64 H)
  c4 : W.cell? ⟨wb, 4, none⟩ = some (.slice sa S.length sc)
  c5 : W.cell? ⟨wb, 5, none⟩ = some kv
  own : W.ownsRow (wb + 1) 3 1 kv ks.length (kvV ks)
  f5 : W.frozen? ⟨wb, 5, none⟩ = false
  row : RowL W sa sc S
set_option maxRecDepth 20000 in
set_option maxHeartbeats 3200000 in
theorem extend_full (wb : Nat) (P Q G H k l : Int) (sa : Option Addr) (sc : Nat) (S : List Int) (kv : Value) (ks : List Nat) (w : World) (hw : WayX w wb P Q G H sa sc S kv ks) (hn : ks.length = S.length) :
    Calls Try.prog 11 #[.pointer (some ⟨wb, 0, none⟩), .int .i64 k, .int .i64 l] w fun e w' => e = .returned (.tuple #[.slice none 0 0, .int .i64 7]) ∧ Below w.heap.size w w' := by
  obtain ⟨ka, kc, rfl, _⟩ := own_any hw.own
  have c5 := hw.c5
  have c4 := hw.c4
  have zwb : wb < w.heap.size := World.block_lt_of_cell? _ _ c5
  rw [hn] at c5
  obtain ⟨n, hn2⟩ : ∃ n, S.length = n := ⟨_, rfl⟩
  rw [hn2] at c5 c4
  clear hw hn hn2
  go_enter Try.func11, Try.ntmps11
  go_wp2_with fail
  refine wp_region_D (S := (fun W : World => Below w.heap.size w W)) (fun _ => true) (by kernel_rfl) (Below.refl _ _).drew (fun hHeld => ?_)
  simp only [List.size_toArray, List.length_cons, List.length_nil, Nat.reduceAdd, Array.replicate_succ, Array.replicate_zero, List.push_toArray, List.append_toArray, List.nil_append, List.cons_append]
  refine WD_free (i := 0) (oi := _) (v := ?_) rfl (by kernel_rfl) (fun _ _ _ h => h) (Or.inl ⟨by rfl, ?_⟩) ?_
  rotate_left
  · (intro W hS; (try dsimp only at hS); clear hS; go_simp; with_reducible rfl)
  try simp only [Act.put, List.getElem_toArray, List.getElem_cons_succ, List.getElem_cons_zero, List.setIfInBounds_toArray, List.set_cons_zero, List.set_cons_succ]
  refine WD_free (i := 1) (oi := _) (v := ?_) rfl (by kernel_rfl) (fun _ _ _ h => h) (Or.inl ⟨by rfl, ?_⟩) ?_
  rotate_left
  · (intro W hS; (try dsimp only at hS); clear hS; go_simp; with_reducible rfl)
  try simp only [Act.put, List.getElem_toArray, List.getElem_cons_succ, List.getElem_cons_zero, List.setIfInBounds_toArray, List.set_cons_zero, List.set_cons_succ]
  refine WD_free (i := 2) (oi := _) (v := ?_) rfl (by kernel_rfl) (fun _ _ _ h => h) (Or.inl ⟨by rfl, ?_⟩) ?_
  rotate_left
  · (intro W hS; (try dsimp only at hS); clear hS; go_simp; with_reducible rfl)
  try simp only [Act.put, List.getElem_toArray, List.getElem_cons_succ, List.getElem_cons_zero, List.setIfInBounds_toArray, List.set_cons_zero, List.set_cons_succ]
  refine WD_take (i := 3) (oi := _) (v := ?_) rfl (by kernel_rfl) (fun _ _ _ h => h) (Or.inl ⟨by rfl, ?_⟩) (by assumption) ?_
  rotate_left
  · (intro W hS; (try dsimp only at hS); have kkc := (hS.cell (p := ⟨wb, 5, none⟩) zwb).trans c5; clear hS; go_simp; with_reducible rfl)
  try simp only [Act.put, List.getElem_toArray, List.getElem_cons_succ, List.getElem_cons_zero, List.setIfInBounds_toArray, List.set_cons_zero, List.set_cons_succ]
  refine WD_free (i := 4) (oi := _) (v := ?_) rfl (by kernel_rfl) (fun _ _ _ h => h) (Or.inl ⟨by rfl, ?_⟩) ?_
  rotate_left
  · (intro W hS; (try dsimp only at hS); clear hS; go_simp; with_reducible rfl)
  try simp only [Act.put, List.getElem_toArray, List.getElem_cons_succ, List.getElem_cons_zero, List.setIfInBounds_toArray, List.set_cons_zero, List.set_cons_succ]
  refine WD_free (i := 5) (oi := _) (v := ?_) rfl (by kernel_rfl) (fun _ _ _ h => h) (Or.inl ⟨by rfl, ?_⟩) ?_
  rotate_left
  · (intro W hS; (try dsimp only at hS); clear hS; go_simp; with_reducible rfl)
  try simp only [Act.put, List.getElem_toArray, List.getElem_cons_succ, List.getElem_cons_zero, List.setIfInBounds_toArray, List.set_cons_zero, List.set_cons_succ]
  refine WD_free (i := 6) (oi := _) (v := ?_) rfl (by kernel_rfl) (fun _ _ _ h => h) (Or.inl ⟨by rfl, ?_⟩) ?_
  rotate_left
  · (intro W hS; (try dsimp only at hS); clear hS; go_simp; with_reducible rfl)
  try simp only [Act.put, List.getElem_toArray, List.getElem_cons_succ, List.getElem_cons_zero, List.setIfInBounds_toArray, List.set_cons_zero, List.set_cons_succ]
  refine WD_free (i := 7) (oi := _) (v := ?_) rfl (by kernel_rfl) (fun _ _ _ h => h) (Or.inl ⟨by rfl, ?_⟩) ?_
  rotate_left
  · (intro W hS; (try dsimp only at hS); clear hS; go_simp; with_reducible rfl)
  try simp only [Act.put, List.getElem_toArray, List.getElem_cons_succ, List.getElem_cons_zero, List.setIfInBounds_toArray, List.set_cons_zero, List.set_cons_succ]
  refine WD_take (i := 8) (oi := _) (v := ?_) rfl (by kernel_rfl) (fun _ _ _ h => h) (Or.inl ⟨by rfl, ?_⟩) (by assumption) ?_
  rotate_left
  · (intro W hS; (try dsimp only at hS); have kkc := (hS.cell (p := ⟨wb, 4, none⟩) zwb).trans c4; clear hS; go_simp; with_reducible rfl)
  try simp only [Act.put, List.getElem_toArray, List.getElem_cons_succ, List.getElem_cons_zero, List.setIfInBounds_toArray, List.set_cons_zero, List.set_cons_succ]
  refine WD_free (i := 9) (oi := _) (v := ?_) rfl (by kernel_rfl) (fun _ _ _ h => h) (Or.inl ⟨by rfl, ?_⟩) ?_
  rotate_left
  · (intro W hS; (try dsimp only at hS); clear hS; go_simp; with_reducible rfl)
  try simp only [Act.put, List.getElem_toArray, List.getElem_cons_succ, List.getElem_cons_zero, List.setIfInBounds_toArray, List.set_cons_zero, List.set_cons_succ]
  refine WD_free (i := 10) (oi := _) (v := ?_) rfl (by kernel_rfl) (fun _ _ _ h => h) (Or.inl ⟨by rfl, ?_⟩) ?_
  rotate_left
  · (intro W hS; (try dsimp only at hS); clear hS; go_simp; with_reducible rfl)
  try simp only [Act.put, List.getElem_toArray, List.getElem_cons_succ, List.getElem_cons_zero, List.setIfInBounds_toArray, List.set_cons_zero, List.set_cons_succ]
  refine WD_done (by kernel_rfl) ?_ _
  go_wp2
  go_ret2
  exact ⟨rfl, hHeld⟩
set_option maxRecDepth 20000 in
set_option maxHeartbeats 3200000 in
theorem extend_badk (wb : Nat) (P Q G H k l : Int) (sa : Option Addr) (sc : Nat) (S : List Int) (kv : Value) (ks : List Nat) (w : World) (hw : WayX w wb P Q G H sa sc S kv ks) (s : Int) (hs : S[ks.length]? = some s) (x : Int) (hx : shE P Q G H k G = x) (hx0 : ¬ x = 0) :
    Calls Try.prog 11 #[.pointer (some ⟨wb, 0, none⟩), .int .i64 k, .int .i64 l] w fun e w' => e = .returned (.tuple #[.slice none 0 0, .int .i64 x]) ∧ Below w.heap.size w w' := by
  obtain ⟨ka, kc, hkv, _⟩ := own_any hw.own
  have c5 := hw.c5
  have c4 := hw.c4
  rw [hkv] at c5
  have zwb : wb < w.heap.size := World.block_lt_of_cell? _ _ c5
  obtain ⟨sb, so, rfl, hsc⟩ := hw.row.shape (Nat.lt_of_le_of_lt (Nat.zero_le _) (List.getElem?_eq_some_iff.1 hs).1)
  have cs := hsc _ _ hs
  have zsb : sb < w.heap.size := World.block_lt_of_cell? _ _ cs
  have g0 := hw.g0
  have g1 := hw.g1
  have g2 := hw.g2
  have g3 := hw.g3
  have hnS : ks.length < S.length := (List.getElem?_eq_some_iff.1 hs).1
  obtain ⟨m, hm⟩ : ∃ m, S.length = m := ⟨_, rfl⟩
  obtain ⟨n, hn⟩ : ∃ n, ks.length = n := ⟨_, rfl⟩
  have HW := Lib.hid hw
  have HN := Lib.hid hn
  rw [hm, hn] at hnS
  rw [hm] at c4
  rw [hn] at c5 cs
  have hnm : (n : Int) < (m : Int) := by omega
  have hne : ((n : Int) == (m : Int)) = false := by simp; omega
  have HSt := Lib.hid fun w' => shake_Start_no P Q G H k w' (by rw [hx]; exact hx0)
  rw [hx] at HSt
  have x1 : (x == (0 : Int)) = false := by simpa using hx0
  have x2 : (x != (0 : Int)) = true := by simpa using hx0
  clear hw hs hsc hm hn hkv hx hx0
  go_enter Try.func11, Try.ntmps11
  go_wp2_with fail
  refine wp_region_D (S := (fun W : World => Below w.heap.size w W)) (fun _ => true) (by kernel_rfl) (Below.refl _ _).drew (fun hHeld => ?_)
  simp only [List.size_toArray, List.length_cons, List.length_nil, Nat.reduceAdd, Array.replicate_succ, Array.replicate_zero, List.push_toArray, List.append_toArray, List.nil_append, List.cons_append]
  refine WD_free (i := 0) (oi := _) (v := ?_) rfl (by kernel_rfl) (fun _ _ _ h => h) (Or.inl ⟨by rfl, ?_⟩) ?_
  rotate_left
  · (intro W hS; (try dsimp only at hS); clear hS; go_simp; with_reducible rfl)
  try simp only [Act.put, List.getElem_toArray, List.getElem_cons_succ, List.getElem_cons_zero, List.setIfInBounds_toArray, List.set_cons_zero, List.set_cons_succ]
  refine WD_free (i := 1) (oi := _) (v := ?_) rfl (by kernel_rfl) (fun _ _ _ h => h) (Or.inl ⟨by rfl, ?_⟩) ?_
  rotate_left
  · (intro W hS; (try dsimp only at hS); clear hS; go_simp; with_reducible rfl)
  try simp only [Act.put, List.getElem_toArray, List.getElem_cons_succ, List.getElem_cons_zero, List.setIfInBounds_toArray, List.set_cons_zero, List.set_cons_succ]
  refine WD_free (i := 2) (oi := _) (v := ?_) rfl (by kernel_rfl) (fun _ _ _ h => h) (Or.inl ⟨by rfl, ?_⟩) ?_
  rotate_left
  · (intro W hS; (try dsimp only at hS); clear hS; go_simp; with_reducible rfl)
  try simp only [Act.put, List.getElem_toArray, List.getElem_cons_succ, List.getElem_cons_zero, List.setIfInBounds_toArray, List.set_cons_zero, List.set_cons_succ]
  refine WD_take (i := 3) (oi := _) (v := ?_) rfl (by kernel_rfl) (fun _ _ _ h => h) (Or.inl ⟨by rfl, ?_⟩) (by assumption) ?_
  rotate_left
  · (intro W hS; (try dsimp only at hS); have kkc := (hS.cell (p := ⟨wb, 5, none⟩) zwb).trans c5; clear hS; go_simp; with_reducible rfl)
  try simp only [Act.put, List.getElem_toArray, List.getElem_cons_succ, List.getElem_cons_zero, List.setIfInBounds_toArray, List.set_cons_zero, List.set_cons_succ]
  refine WD_free (i := 4) (oi := _) (v := ?_) rfl (by kernel_rfl) (fun _ _ _ h => h) (Or.inl ⟨by rfl, ?_⟩) ?_
  rotate_left
  · (intro W hS; (try dsimp only at hS); clear hS; go_simp; with_reducible rfl)
  try simp only [Act.put, List.getElem_toArray, List.getElem_cons_succ, List.getElem_cons_zero, List.setIfInBounds_toArray, List.set_cons_zero, List.set_cons_succ]
  refine WD_free (i := 5) (oi := _) (v := ?_) rfl (by kernel_rfl) (fun _ _ _ h => h) (Or.inl ⟨by rfl, ?_⟩) ?_
  rotate_left
  · (intro W hS; (try dsimp only at hS); clear hS; go_simp; with_reducible rfl)
  try simp only [Act.put, List.getElem_toArray, List.getElem_cons_succ, List.getElem_cons_zero, List.setIfInBounds_toArray, List.set_cons_zero, List.set_cons_succ]
  refine WD_free (i := 6) (oi := _) (v := ?_) rfl (by kernel_rfl) (fun _ _ _ h => h) (Or.inl ⟨by rfl, ?_⟩) ?_
  rotate_left
  · (intro W hS; (try dsimp only at hS); clear hS; go_simp; with_reducible rfl)
  try simp only [Act.put, List.getElem_toArray, List.getElem_cons_succ, List.getElem_cons_zero, List.setIfInBounds_toArray, List.set_cons_zero, List.set_cons_succ]
  refine WD_free (i := 7) (oi := _) (v := ?_) rfl (by kernel_rfl) (fun _ _ _ h => h) (Or.inl ⟨by rfl, ?_⟩) ?_
  rotate_left
  · (intro W hS; (try dsimp only at hS); clear hS; go_simp; with_reducible rfl)
  try simp only [Act.put, List.getElem_toArray, List.getElem_cons_succ, List.getElem_cons_zero, List.setIfInBounds_toArray, List.set_cons_zero, List.set_cons_succ]
  refine WD_take (i := 8) (oi := _) (v := ?_) rfl (by kernel_rfl) (fun _ _ _ h => h) (Or.inl ⟨by rfl, ?_⟩) (by assumption) ?_
  rotate_left
  · (intro W hS; (try dsimp only at hS); have kkc := (hS.cell (p := ⟨wb, 4, none⟩) zwb).trans c4; clear hS; go_simp; with_reducible rfl)
  try simp only [Act.put, List.getElem_toArray, List.getElem_cons_succ, List.getElem_cons_zero, List.setIfInBounds_toArray, List.set_cons_zero, List.set_cons_succ]
  refine WD_free (i := 9) (oi := _) (v := ?_) rfl (by kernel_rfl) (fun _ _ _ h => h) (Or.inl ⟨by rfl, ?_⟩) ?_
  rotate_left
  · (intro W hS; (try dsimp only at hS); clear hS; go_simp; with_reducible rfl)
  try simp only [Act.put, List.getElem_toArray, List.getElem_cons_succ, List.getElem_cons_zero, List.setIfInBounds_toArray, List.set_cons_zero, List.set_cons_succ]
  refine WD_free (i := 10) (oi := _) (v := ?_) rfl (by kernel_rfl) (fun _ _ _ h => h) (Or.inl ⟨by rfl, ?_⟩) ?_
  rotate_left
  · (intro W hS; (try dsimp only at hS); clear hS; go_simp; with_reducible rfl)
  try simp only [Act.put, List.getElem_toArray, List.getElem_cons_succ, List.getElem_cons_zero, List.setIfInBounds_toArray, List.set_cons_zero, List.set_cons_succ]
  refine WD_done (by kernel_rfl) ?_ _
  go_wp2_with fail
  refine wp_region_D (S := (fun W : World => Below w.heap.size w W)) (fun _ => true) (by kernel_rfl) hHeld.drew (fun hHeld => ?_)
  simp only [List.size_toArray, List.length_cons, List.length_nil, Nat.reduceAdd, Array.replicate_succ, Array.replicate_zero, List.push_toArray, List.append_toArray, List.nil_append, List.cons_append]
  refine WD_free (i := 0) (oi := _) (v := ?_) rfl (by kernel_rfl) (fun _ _ _ h => h) (Or.inl ⟨by rfl, ?_⟩) ?_
  rotate_left
  · (intro W hS; (try dsimp only at hS); clear hS; go_simp; with_reducible rfl)
  try simp only [Act.put, List.getElem_toArray, List.getElem_cons_succ, List.getElem_cons_zero, List.setIfInBounds_toArray, List.set_cons_zero, List.set_cons_succ]
  refine WD_free (i := 1) (oi := _) (v := ?_) rfl (by kernel_rfl) (fun _ _ _ h => h) (Or.inl ⟨by rfl, ?_⟩) ?_
  rotate_left
  · (intro W hS; (try dsimp only at hS); clear hS; go_simp; with_reducible rfl)
  try simp only [Act.put, List.getElem_toArray, List.getElem_cons_succ, List.getElem_cons_zero, List.setIfInBounds_toArray, List.set_cons_zero, List.set_cons_succ]
  refine WD_free (i := 2) (oi := _) (v := ?_) rfl (by kernel_rfl) (fun _ _ _ h => h) (Or.inl ⟨by rfl, ?_⟩) ?_
  rotate_left
  · (intro W hS; (try dsimp only at hS); clear hS; go_simp; with_reducible rfl)
  try simp only [Act.put, List.getElem_toArray, List.getElem_cons_succ, List.getElem_cons_zero, List.setIfInBounds_toArray, List.set_cons_zero, List.set_cons_succ]
  refine WD_take (i := 3) (oi := _) (v := ?_) rfl (by kernel_rfl) (fun _ _ _ h => h) (Or.inl ⟨by rfl, ?_⟩) (by assumption) ?_
  rotate_left
  · (intro W hS; (try dsimp only at hS); have kkc := (hS.cell (p := ⟨wb, 4, none⟩) zwb).trans c4; clear hS; go_simp; with_reducible rfl)
  try simp only [Act.put, List.getElem_toArray, List.getElem_cons_succ, List.getElem_cons_zero, List.setIfInBounds_toArray, List.set_cons_zero, List.set_cons_succ]
  refine WD_free (i := 4) (oi := _) (v := ?_) rfl (by kernel_rfl) (fun _ _ _ h => h) (Or.inl ⟨by rfl, ?_⟩) ?_
  rotate_left
  · (intro W hS; (try dsimp only at hS); clear hS; go_simp; with_reducible rfl)
  try simp only [Act.put, List.getElem_toArray, List.getElem_cons_succ, List.getElem_cons_zero, List.setIfInBounds_toArray, List.set_cons_zero, List.set_cons_succ]
  refine WD_free (i := 5) (oi := _) (v := ?_) rfl (by kernel_rfl) (fun _ _ _ h => h) (Or.inl ⟨by rfl, ?_⟩) ?_
  rotate_left
  · (intro W hS; (try dsimp only at hS); clear hS; go_simp; with_reducible rfl)
  try simp only [Act.put, List.getElem_toArray, List.getElem_cons_succ, List.getElem_cons_zero, List.setIfInBounds_toArray, List.set_cons_zero, List.set_cons_succ]
  refine WD_free (i := 6) (oi := _) (v := ?_) rfl (by kernel_rfl) (fun _ _ _ h => h) (Or.inl ⟨by rfl, ?_⟩) ?_
  rotate_left
  · (intro W hS; (try dsimp only at hS); clear hS; go_simp; with_reducible rfl)
  try simp only [Act.put, List.getElem_toArray, List.getElem_cons_succ, List.getElem_cons_zero, List.setIfInBounds_toArray, List.set_cons_zero, List.set_cons_succ]
  refine WD_take (i := 7) (oi := _) (v := ?_) rfl (by kernel_rfl) (fun _ _ _ h => h) (Or.inl ⟨by rfl, ?_⟩) (by assumption) ?_
  rotate_left
  · (intro W hS; (try dsimp only at hS); have kkc := (hS.cell (p := ⟨wb, 5, none⟩) zwb).trans c5; clear hS; go_simp; with_reducible rfl)
  try simp only [Act.put, List.getElem_toArray, List.getElem_cons_succ, List.getElem_cons_zero, List.setIfInBounds_toArray, List.set_cons_zero, List.set_cons_succ]
  refine WD_free (i := 8) (oi := _) (v := ?_) rfl (by kernel_rfl) (fun _ _ _ h => h) (Or.inl ⟨by rfl, ?_⟩) ?_
  rotate_left
  · (intro W hS; (try dsimp only at hS); clear hS; go_simp; with_reducible rfl)
  try simp only [Act.put, List.getElem_toArray, List.getElem_cons_succ, List.getElem_cons_zero, List.setIfInBounds_toArray, List.set_cons_zero, List.set_cons_succ]
  refine WD_free (i := 9) (oi := _) (v := ?_) rfl (by kernel_rfl) (fun _ _ _ h => h) (Or.inl ⟨by rfl, ?_⟩) ?_
  rotate_left
  · (intro W hS; (try dsimp only at hS); clear hS; go_simp; with_reducible rfl)
  try simp only [Act.put, List.getElem_toArray, List.getElem_cons_succ, List.getElem_cons_zero, List.setIfInBounds_toArray, List.set_cons_zero, List.set_cons_succ]
  refine WD_take (i := 10) (oi := _) (v := ?_) rfl (by kernel_rfl) (fun _ _ _ h => h) (Or.inl ⟨by rfl, ?_⟩) (by assumption) ?_
  rotate_left
  · (intro W hS; (try dsimp only at hS); have kkc := (hS.cell (p := ⟨sb, so + n, none⟩) zsb).trans cs; clear hS; go_simp; with_reducible rfl)
  try simp only [Act.put, List.getElem_toArray, List.getElem_cons_succ, List.getElem_cons_zero, List.setIfInBounds_toArray, List.set_cons_zero, List.set_cons_succ]
  refine WD_free (i := 11) (oi := _) (v := ?_) rfl (by kernel_rfl) (fun _ _ _ h => h) (Or.inl ⟨by rfl, ?_⟩) ?_
  rotate_left
  · (intro W hS; (try dsimp only at hS); clear hS; go_simp; with_reducible rfl)
  try simp only [Act.put, List.getElem_toArray, List.getElem_cons_succ, List.getElem_cons_zero, List.setIfInBounds_toArray, List.set_cons_zero, List.set_cons_succ]
  refine WD_done (by kernel_rfl) ?_ _
  go_wp2_with fail
  refine (HSt.out _).mono ?_
  rintro e w1 ⟨⟨v, rfl⟩, hb1⟩
  have hb := below_two hHeld hb1
  clear hHeld hb1
  go_wp2
  go_ret2
  exact ⟨rfl, hb⟩
set_option maxRecDepth 20000 in
set_option maxHeartbeats 3200000 in
theorem extend_badl (wb : Nat) (P Q G H k l : Int) (sa : Option Addr) (sc : Nat) (S : List Int) (kv : Value) (ks : List Nat) (w : World) (hw : WayX w wb P Q G H sa sc S kv ks) (s : Int) (hs : S[ks.length]? = some s) (hk : shE P Q G H k G = 0) (hs0 : shE P Q G H s G = 0) (x : Int) (hx : shE P Q G H l G = x) (hx0 : ¬ x = 0) :
    Calls Try.prog 11 #[.pointer (some ⟨wb, 0, none⟩), .int .i64 k, .int .i64 l] w fun e w' => e = .returned (.tuple #[.slice none 0 0, .int .i64 x]) ∧ Below w.heap.size w w' := by
  obtain ⟨ka, kc, hkv, _⟩ := own_any hw.own
  have c5 := hw.c5
  have c4 := hw.c4
  rw [hkv] at c5
  have zwb : wb < w.heap.size := World.block_lt_of_cell? _ _ c5
  obtain ⟨sb, so, rfl, hsc⟩ := hw.row.shape (Nat.lt_of_le_of_lt (Nat.zero_le _) (List.getElem?_eq_some_iff.1 hs).1)
  have cs := hsc _ _ hs
  have zsb : sb < w.heap.size := World.block_lt_of_cell? _ _ cs
  have g0 := hw.g0
  have g1 := hw.g1
  have g2 := hw.g2
  have g3 := hw.g3
  have hnS : ks.length < S.length := (List.getElem?_eq_some_iff.1 hs).1
  obtain ⟨m, hm⟩ : ∃ m, S.length = m := ⟨_, rfl⟩
  obtain ⟨n, hn⟩ : ∃ n, ks.length = n := ⟨_, rfl⟩
  have HW := Lib.hid hw
  have HN := Lib.hid hn
  rw [hm, hn] at hnS
  rw [hm] at c4
  rw [hn] at c5 cs
  have hnm : (n : Int) < (m : Int) := by omega
  have hne : ((n : Int) == (m : Int)) = false := by simp; omega
  have HSt := Lib.hid fun w' => shake_Start P Q G H k w' hk
  obtain ⟨K, hK⟩ : ∃ K, pw G k P = K := ⟨_, rfl⟩
  rw [hK] at HSt
  have HAn := Lib.hid fun w' => shake_Answer_no P Q G H s l K w' hs0 x hx hx0
  have x1 : (x == (0 : Int)) = false := by simpa using hx0
  have x2 : (x != (0 : Int)) = true := by simpa using hx0
  clear hw hs hsc hm hn hkv hx hx0 hK hk hs0
  go_enter Try.func11, Try.ntmps11
  go_wp2_with fail
  refine wp_region_D (S := (fun W : World => Below w.heap.size w W)) (fun _ => true) (by kernel_rfl) (Below.refl _ _).drew (fun hHeld => ?_)
  simp only [List.size_toArray, List.length_cons, List.length_nil, Nat.reduceAdd, Array.replicate_succ, Array.replicate_zero, List.push_toArray, List.append_toArray, List.nil_append, List.cons_append]
  refine WD_free (i := 0) (oi := _) (v := ?_) rfl (by kernel_rfl) (fun _ _ _ h => h) (Or.inl ⟨by rfl, ?_⟩) ?_
  rotate_left
  · (intro W hS; (try dsimp only at hS); clear hS; go_simp; with_reducible rfl)
  try simp only [Act.put, List.getElem_toArray, List.getElem_cons_succ, List.getElem_cons_zero, List.setIfInBounds_toArray, List.set_cons_zero, List.set_cons_succ]
  refine WD_free (i := 1) (oi := _) (v := ?_) rfl (by kernel_rfl) (fun _ _ _ h => h) (Or.inl ⟨by rfl, ?_⟩) ?_
  rotate_left
  · (intro W hS; (try dsimp only at hS); clear hS; go_simp; with_reducible rfl)
  try simp only [Act.put, List.getElem_toArray, List.getElem_cons_succ, List.getElem_cons_zero, List.setIfInBounds_toArray, List.set_cons_zero, List.set_cons_succ]
  refine WD_free (i := 2) (oi := _) (v := ?_) rfl (by kernel_rfl) (fun _ _ _ h => h) (Or.inl ⟨by rfl, ?_⟩) ?_
  rotate_left
  · (intro W hS; (try dsimp only at hS); clear hS; go_simp; with_reducible rfl)
  try simp only [Act.put, List.getElem_toArray, List.getElem_cons_succ, List.getElem_cons_zero, List.setIfInBounds_toArray, List.set_cons_zero, List.set_cons_succ]
  refine WD_take (i := 3) (oi := _) (v := ?_) rfl (by kernel_rfl) (fun _ _ _ h => h) (Or.inl ⟨by rfl, ?_⟩) (by assumption) ?_
  rotate_left
  · (intro W hS; (try dsimp only at hS); have kkc := (hS.cell (p := ⟨wb, 5, none⟩) zwb).trans c5; clear hS; go_simp; with_reducible rfl)
  try simp only [Act.put, List.getElem_toArray, List.getElem_cons_succ, List.getElem_cons_zero, List.setIfInBounds_toArray, List.set_cons_zero, List.set_cons_succ]
  refine WD_free (i := 4) (oi := _) (v := ?_) rfl (by kernel_rfl) (fun _ _ _ h => h) (Or.inl ⟨by rfl, ?_⟩) ?_
  rotate_left
  · (intro W hS; (try dsimp only at hS); clear hS; go_simp; with_reducible rfl)
  try simp only [Act.put, List.getElem_toArray, List.getElem_cons_succ, List.getElem_cons_zero, List.setIfInBounds_toArray, List.set_cons_zero, List.set_cons_succ]
  refine WD_free (i := 5) (oi := _) (v := ?_) rfl (by kernel_rfl) (fun _ _ _ h => h) (Or.inl ⟨by rfl, ?_⟩) ?_
  rotate_left
  · (intro W hS; (try dsimp only at hS); clear hS; go_simp; with_reducible rfl)
  try simp only [Act.put, List.getElem_toArray, List.getElem_cons_succ, List.getElem_cons_zero, List.setIfInBounds_toArray, List.set_cons_zero, List.set_cons_succ]
  refine WD_free (i := 6) (oi := _) (v := ?_) rfl (by kernel_rfl) (fun _ _ _ h => h) (Or.inl ⟨by rfl, ?_⟩) ?_
  rotate_left
  · (intro W hS; (try dsimp only at hS); clear hS; go_simp; with_reducible rfl)
  try simp only [Act.put, List.getElem_toArray, List.getElem_cons_succ, List.getElem_cons_zero, List.setIfInBounds_toArray, List.set_cons_zero, List.set_cons_succ]
  refine WD_free (i := 7) (oi := _) (v := ?_) rfl (by kernel_rfl) (fun _ _ _ h => h) (Or.inl ⟨by rfl, ?_⟩) ?_
  rotate_left
  · (intro W hS; (try dsimp only at hS); clear hS; go_simp; with_reducible rfl)
  try simp only [Act.put, List.getElem_toArray, List.getElem_cons_succ, List.getElem_cons_zero, List.setIfInBounds_toArray, List.set_cons_zero, List.set_cons_succ]
  refine WD_take (i := 8) (oi := _) (v := ?_) rfl (by kernel_rfl) (fun _ _ _ h => h) (Or.inl ⟨by rfl, ?_⟩) (by assumption) ?_
  rotate_left
  · (intro W hS; (try dsimp only at hS); have kkc := (hS.cell (p := ⟨wb, 4, none⟩) zwb).trans c4; clear hS; go_simp; with_reducible rfl)
  try simp only [Act.put, List.getElem_toArray, List.getElem_cons_succ, List.getElem_cons_zero, List.setIfInBounds_toArray, List.set_cons_zero, List.set_cons_succ]
  refine WD_free (i := 9) (oi := _) (v := ?_) rfl (by kernel_rfl) (fun _ _ _ h => h) (Or.inl ⟨by rfl, ?_⟩) ?_
  rotate_left
  · (intro W hS; (try dsimp only at hS); clear hS; go_simp; with_reducible rfl)
  try simp only [Act.put, List.getElem_toArray, List.getElem_cons_succ, List.getElem_cons_zero, List.setIfInBounds_toArray, List.set_cons_zero, List.set_cons_succ]
  refine WD_free (i := 10) (oi := _) (v := ?_) rfl (by kernel_rfl) (fun _ _ _ h => h) (Or.inl ⟨by rfl, ?_⟩) ?_
  rotate_left
  · (intro W hS; (try dsimp only at hS); clear hS; go_simp; with_reducible rfl)
  try simp only [Act.put, List.getElem_toArray, List.getElem_cons_succ, List.getElem_cons_zero, List.setIfInBounds_toArray, List.set_cons_zero, List.set_cons_succ]
  refine WD_done (by kernel_rfl) ?_ _
  go_wp2_with fail
  refine wp_region_D (S := (fun W : World => Below w.heap.size w W)) (fun _ => true) (by kernel_rfl) hHeld.drew (fun hHeld => ?_)
  simp only [List.size_toArray, List.length_cons, List.length_nil, Nat.reduceAdd, Array.replicate_succ, Array.replicate_zero, List.push_toArray, List.append_toArray, List.nil_append, List.cons_append]
  refine WD_free (i := 0) (oi := _) (v := ?_) rfl (by kernel_rfl) (fun _ _ _ h => h) (Or.inl ⟨by rfl, ?_⟩) ?_
  rotate_left
  · (intro W hS; (try dsimp only at hS); clear hS; go_simp; with_reducible rfl)
  try simp only [Act.put, List.getElem_toArray, List.getElem_cons_succ, List.getElem_cons_zero, List.setIfInBounds_toArray, List.set_cons_zero, List.set_cons_succ]
  refine WD_free (i := 1) (oi := _) (v := ?_) rfl (by kernel_rfl) (fun _ _ _ h => h) (Or.inl ⟨by rfl, ?_⟩) ?_
  rotate_left
  · (intro W hS; (try dsimp only at hS); clear hS; go_simp; with_reducible rfl)
  try simp only [Act.put, List.getElem_toArray, List.getElem_cons_succ, List.getElem_cons_zero, List.setIfInBounds_toArray, List.set_cons_zero, List.set_cons_succ]
  refine WD_free (i := 2) (oi := _) (v := ?_) rfl (by kernel_rfl) (fun _ _ _ h => h) (Or.inl ⟨by rfl, ?_⟩) ?_
  rotate_left
  · (intro W hS; (try dsimp only at hS); clear hS; go_simp; with_reducible rfl)
  try simp only [Act.put, List.getElem_toArray, List.getElem_cons_succ, List.getElem_cons_zero, List.setIfInBounds_toArray, List.set_cons_zero, List.set_cons_succ]
  refine WD_take (i := 3) (oi := _) (v := ?_) rfl (by kernel_rfl) (fun _ _ _ h => h) (Or.inl ⟨by rfl, ?_⟩) (by assumption) ?_
  rotate_left
  · (intro W hS; (try dsimp only at hS); have kkc := (hS.cell (p := ⟨wb, 4, none⟩) zwb).trans c4; clear hS; go_simp; with_reducible rfl)
  try simp only [Act.put, List.getElem_toArray, List.getElem_cons_succ, List.getElem_cons_zero, List.setIfInBounds_toArray, List.set_cons_zero, List.set_cons_succ]
  refine WD_free (i := 4) (oi := _) (v := ?_) rfl (by kernel_rfl) (fun _ _ _ h => h) (Or.inl ⟨by rfl, ?_⟩) ?_
  rotate_left
  · (intro W hS; (try dsimp only at hS); clear hS; go_simp; with_reducible rfl)
  try simp only [Act.put, List.getElem_toArray, List.getElem_cons_succ, List.getElem_cons_zero, List.setIfInBounds_toArray, List.set_cons_zero, List.set_cons_succ]
  refine WD_free (i := 5) (oi := _) (v := ?_) rfl (by kernel_rfl) (fun _ _ _ h => h) (Or.inl ⟨by rfl, ?_⟩) ?_
  rotate_left
  · (intro W hS; (try dsimp only at hS); clear hS; go_simp; with_reducible rfl)
  try simp only [Act.put, List.getElem_toArray, List.getElem_cons_succ, List.getElem_cons_zero, List.setIfInBounds_toArray, List.set_cons_zero, List.set_cons_succ]
  refine WD_free (i := 6) (oi := _) (v := ?_) rfl (by kernel_rfl) (fun _ _ _ h => h) (Or.inl ⟨by rfl, ?_⟩) ?_
  rotate_left
  · (intro W hS; (try dsimp only at hS); clear hS; go_simp; with_reducible rfl)
  try simp only [Act.put, List.getElem_toArray, List.getElem_cons_succ, List.getElem_cons_zero, List.setIfInBounds_toArray, List.set_cons_zero, List.set_cons_succ]
  refine WD_take (i := 7) (oi := _) (v := ?_) rfl (by kernel_rfl) (fun _ _ _ h => h) (Or.inl ⟨by rfl, ?_⟩) (by assumption) ?_
  rotate_left
  · (intro W hS; (try dsimp only at hS); have kkc := (hS.cell (p := ⟨wb, 5, none⟩) zwb).trans c5; clear hS; go_simp; with_reducible rfl)
  try simp only [Act.put, List.getElem_toArray, List.getElem_cons_succ, List.getElem_cons_zero, List.setIfInBounds_toArray, List.set_cons_zero, List.set_cons_succ]
  refine WD_free (i := 8) (oi := _) (v := ?_) rfl (by kernel_rfl) (fun _ _ _ h => h) (Or.inl ⟨by rfl, ?_⟩) ?_
  rotate_left
  · (intro W hS; (try dsimp only at hS); clear hS; go_simp; with_reducible rfl)
  try simp only [Act.put, List.getElem_toArray, List.getElem_cons_succ, List.getElem_cons_zero, List.setIfInBounds_toArray, List.set_cons_zero, List.set_cons_succ]
  refine WD_free (i := 9) (oi := _) (v := ?_) rfl (by kernel_rfl) (fun _ _ _ h => h) (Or.inl ⟨by rfl, ?_⟩) ?_
  rotate_left
  · (intro W hS; (try dsimp only at hS); clear hS; go_simp; with_reducible rfl)
  try simp only [Act.put, List.getElem_toArray, List.getElem_cons_succ, List.getElem_cons_zero, List.setIfInBounds_toArray, List.set_cons_zero, List.set_cons_succ]
  refine WD_take (i := 10) (oi := _) (v := ?_) rfl (by kernel_rfl) (fun _ _ _ h => h) (Or.inl ⟨by rfl, ?_⟩) (by assumption) ?_
  rotate_left
  · (intro W hS; (try dsimp only at hS); have kkc := (hS.cell (p := ⟨sb, so + n, none⟩) zsb).trans cs; clear hS; go_simp; with_reducible rfl)
  try simp only [Act.put, List.getElem_toArray, List.getElem_cons_succ, List.getElem_cons_zero, List.setIfInBounds_toArray, List.set_cons_zero, List.set_cons_succ]
  refine WD_free (i := 11) (oi := _) (v := ?_) rfl (by kernel_rfl) (fun _ _ _ h => h) (Or.inl ⟨by rfl, ?_⟩) ?_
  rotate_left
  · (intro W hS; (try dsimp only at hS); clear hS; go_simp; with_reducible rfl)
  try simp only [Act.put, List.getElem_toArray, List.getElem_cons_succ, List.getElem_cons_zero, List.setIfInBounds_toArray, List.set_cons_zero, List.set_cons_succ]
  refine WD_done (by kernel_rfl) ?_ _
  go_wp2_with fail
  refine (HSt.out _).mono ?_
  rintro e w1 ⟨rfl, hb1⟩
  have hb := below_two hHeld hb1
  replace g0 := kept hb g0 zwb
  replace g1 := kept hb g1 zwb
  replace g2 := kept hb g2 zwb
  replace g3 := kept hb g3 zwb
  clear hHeld hb1
  go_wp2_with fail
  refine (HAn.out _).mono ?_
  rintro e w2 ⟨rfl, hb2⟩
  have hb3 := below_two hb hb2
  clear hb2
  go_wp2
  go_ret2
  exact ⟨rfl, hb3.alloc hb3.size _⟩
end Go.Proofs.Ytkodhpjmmiapaaa

/- Plain: a script, step by step. -/
namespace Go.Proofs.Ytkodhpjmmiapaaa
set_option linter.unusedVariables false
set_option linter.unusedSimpArgs false
/-- how far a way is -/
structure St where
  ks : List Nat
  th : Nat
  hm : Nat
  deriving Inhabited
noncomputable def extF (P Q G : Int) (S : List Int) (st : St) (k l : Int) : St × Int × List Nat :=
  if st.ks.length = S.length then (st, 7, [])
  else if ¬ (0 ≤ k ∧ k < Q) then (st, 2, [])
  else if ¬ (0 ≤ l ∧ l < Q) then (st, 2, [])
  else (⟨st.ks ++ [keyN P G (S.getD st.ks.length 0) k l], st.th, st.hm⟩, 0, [keyN P G (S.getD st.ks.length 0) k l % 256, keyN P G (S.getD st.ks.length 0) k l / 256])
def sndF (st : St) (h : Hp) : St × Int × List Nat := if wrongF st.ks.length h = 0 then (⟨st.ks, st.th + 1, st.hm⟩, sendF st.ks st.th h) else (st, wrongF st.ks.length h, [])
def backF' (st : St) (h : Hp) : St × Int × List Nat := if wrongF st.ks.length h = 0 then (⟨st.ks, st.th, st.hm + 1⟩, ansF st.ks (1073741824 + st.hm) h) else (st, wrongF st.ks.length h, [])
noncomputable def hopF (P Q G : Int) (S : List Int) (st : St) (h : Hp) : St × Int × List Nat :=
  if h.kind = 1 then extF P Q G S st h.k h.l else if h.kind = 2 then sndF st h else if h.kind = 3 then backF' st h else (st, 6, [])
noncomputable def runF (P Q G : Int) (S : List Int) : St → List Hp → List (Int × List Nat) × St
  | st, [] => ([], st)
  | st, h :: t => ((hopF P Q G S st h).2 :: (runF P Q G S (hopF P Q G S st h).1 t).1, (runF P Q G S (hopF P Q G S st h).1 t).2)
theorem runF_snoc (P Q G : Int) (S : List Int) (x : Hp) : ∀ (L : List Hp) (st : St), runF P Q G S st (L ++ [x]) = ((runF P Q G S st L).1 ++ [(hopF P Q G S (runF P Q G S st L).2 x).2], (hopF P Q G S (runF P Q G S st L).2 x).1)
  | [], st => rfl
  | h :: L, st => by
    show runF P Q G S st (h :: (L ++ [x])) = _
    simp only [runF]
    rw [runF_snoc P Q G S x L]
    rfl
theorem runF_take {P Q G : Int} {S : List Int} {I : Nat} {L : List Hp} {x : Hp} (st : St) (hx : L[I]? = some x) :
    runF P Q G S st (L.take (I + 1)) = ((runF P Q G S st (L.take I)).1 ++ [(hopF P Q G S (runF P Q G S st (L.take I)).2 x).2], (hopF P Q G S (runF P Q G S st (L.take I)).2 x).1) := by
  rw [List.take_add_one, hx]
  exact runF_snoc _ _ _ _ _ _ _
theorem runF_len (P Q G : Int) (S : List Int) : ∀ (L : List Hp) (st : St), (runF P Q G S st L).1.length = L.length
  | [], st => rfl
  | h :: L, st => by simp [runF, runF_len P Q G S L]
/-- what is done later changes nothing of what was told -/
theorem runF_front (P Q G : Int) (S : List Int) : ∀ (L : List Hp) (st : St) (k : Nat), (runF P Q G S st (L.take k)).1 = (runF P Q G S st L).1.take k
  | [], st, k => by simp [runF]
  | h :: L, st, 0 => by simp [runF]
  | h :: L, st, k + 1 => by simp [runF, runF_front P Q G S L]
/-- what a step keeps -/
structure Ok (S : List Int) (n : Nat) (st : St) : Prop where
  k16 : ∀ k ∈ st.ks, k < 65536
  len : st.ks.length ≤ S.length
  th : st.th ≤ n
  hm : st.hm ≤ n
theorem hopF_ok {P Q G : Int} {S : List Int} {st : St} {n : Nat} (h : Ok S n st) (x : Hp) : Ok S (n + 1) (hopF P Q G S st x).1 := by
  have h0 : Ok S (n + 1) st := ⟨h.k16, h.len, by have := h.th; omega, by have := h.hm; omega⟩
  unfold hopF
  split
  · unfold extF
    split
    · exact h0
    · split
      · exact h0
      · split
        · exact h0
        · refine ⟨fun k hk => ?_, ?_, h0.th, h0.hm⟩
          · rcases List.mem_append.1 hk with h1 | h1
            · exact h.k16 k h1
            · rw [List.mem_singleton.1 h1]; exact keyN_lt _ _ _ _ _
          · have := h.len
            simp
            omega
  · split
    · unfold sndF
      split
      · exact ⟨h.k16, h.len, by have := h.th; show st.th + 1 ≤ n + 1; omega, h0.hm⟩
      · exact h0
    · split
      · unfold backF'
        split
        · exact ⟨h.k16, h.len, h0.th, by have := h.hm; show st.hm + 1 ≤ n + 1; omega⟩
        · exact h0
      · exact h0
theorem runF_ok {P Q G : Int} {S : List Int} : ∀ (L : List Hp) (st : St) (n : Nat), Ok S n st → Ok S (n + L.length) (runF P Q G S st L).2
  | [], st, n, h => h
  | x :: L, st, n, h => by
    have := runF_ok (P := P) (Q := Q) (G := G) L _ (n + 1) (hopF_ok (P := P) (Q := Q) (G := G) h x)
    rw [List.length_cons, show n + (L.length + 1) = n + 1 + L.length by omega]
    exact this
def st0 : St := ⟨[], 0, 0⟩
theorem st0_ok (S : List Int) : Ok S 0 st0 := ⟨by simp [st0], by simp [st0], Nat.le_refl _, Nat.le_refl _⟩
theorem shE_bad {P Q G H a t : Int} (hg : grpE P Q G H = 0) (h : ¬ (0 ≤ a ∧ a < Q)) : shE P Q G H a t = 2 := by
  have : powsB Q [a] = false := powsB_no (i := 0) (x := a) rfl h
  simp [shE, wrongE, hg, this]
end Go.Proofs.Ytkodhpjmmiapaaa

/- (*relay.way).extend where all is good. -/
namespace Go.Proofs.Ytkodhpjmmiapaaa
open Go.RowKit
set_option linter.unusedVariables false
set_option linter.unusedSimpArgs false
theorem key_info : (Try.prog.info? 3).map (fun i => (i.zero, i.size, i.bytes)) = some (some (.int .i64 0), 1, 8) := by kernel_rfl
theorem cell_newK {w : World} {v : Value} {T : TypeId} {n : Nat} (hn : w.heap.size = n) (hv : v.oneCell' = true) : ∀ (j : Nat) (u : Value), [v][j]? = some u → (w.alloc (.cells #[v] T)).cell? ((⟨n, 0, none⟩ : Addr).add j) = some u := by
  subst hn
  intro j u hu
  match j, hu with
  | 0, hu => cases hu; simp [go_sem, Addr.add]
  | j + 1, hu => simp at hu
theorem cell_grown {W W' : World} {row : Option Nat} (hg : W.grownBy W' row) {b o : Nat} (hb : b < W.heap.size) (hne : some b ≠ row) : W'.cell? ⟨b, o, none⟩ = W.cell? ⟨b, o, none⟩ := by
  simp only [World.cell?]
  rw [hg.block b hb hne]
theorem frozen_grown {W W' : World} {row : Option Nat} (hg : W.grownBy W' row) {b o : Nat} (hb : b < W.heap.size) (hne : some b ≠ row) : W'.frozen? ⟨b, o, none⟩ = W.frozen? ⟨b, o, none⟩ := by
  simp only [World.frozen?]
  rw [hg.block b hb hne]
/-- what is left of a world in which a way was made longer -/
structure Longer (wb : Nat) (W W' : World) (kv kv' : Value) (ks : List Nat) : Prop where
  bel : Below wb W W'
  blk : ∀ b, b < W.heap.size → b ≠ wb → some b ≠ kv.ownBlock → W'.heap[b]? = W.heap[b]?
  c5 : W'.cell? ⟨wb, 5, none⟩ = some kv'
  cj : ∀ j, j ≠ 5 → W'.cell? ⟨wb, j, none⟩ = W.cell? ⟨wb, j, none⟩
  fr : ∀ j, W'.frozen? ⟨wb, j, none⟩ = W.frozen? ⟨wb, j, none⟩
  own : W'.ownsRow (wb + 1) 3 1 kv' ks.length (kvV ks)
theorem longer_of {wb : Nat} {w w4 w5 : World} {kv kv' : Value} {ks' : List Nat} {row : Option Nat} {ob ob2 : Obj} (hB6 : Below w.heap.size w w4) (zwb : wb < w.heap.size) (hg : (w4.alloc ob).grownBy w5 row) (hrow : row = kv.ownBlock) (hlt : ∀ k, kv.ownBlock = some k → wb + 1 ≤ k)
    (c5 : w5.cell? ⟨wb, 5, none⟩ = some kv) (ho : w5.ownsRow (wb + 1) 3 1 kv' ks'.length (kvV ks')) : Longer wb w ((w5.setCell ⟨wb, 5, none⟩ kv').alloc ob2) kv kv' ks' := by
  subst hrow
  have hz4 := hB6.size
  have hz5 := hg.size
  simp only [World.size_alloc] at hz5
  have hs5 : ((w5.setCell ⟨wb, 5, none⟩ kv')).heap.size = w5.heap.size := setCell_size _ _ _
  have hne : some wb ≠ kv.ownBlock := fun e => by have := hlt wb e.symm; omega
  have blk : ∀ b, b < w.heap.size → some b ≠ kv.ownBlock → w5.heap[b]? = w.heap[b]? := fun b hb h2 => by
    rw [hg.block b (by simp; omega) h2, Below.heap_alloc _ _ _ (by omega)]
    exact hB6.block b hb
  have blk2 : ∀ b, b < w.heap.size → b ≠ wb → some b ≠ kv.ownBlock → ((w5.setCell ⟨wb, 5, none⟩ kv').alloc ob2).heap[b]? = w.heap[b]? := fun b hb h1 h2 => by
    rw [Below.heap_alloc _ _ _ (by omega), Below.heap_setCell _ _ _ _ (show b ≠ (⟨wb, 5, none⟩ : Addr).block from h1)]
    exact blk b hb h2
  have hw5 : w5.heap[wb]? = w.heap[wb]? := blk wb zwb hne
  have hal : ((w5.setCell ⟨wb, 5, none⟩ kv').alloc ob2).heap[wb]? = (w5.setCell ⟨wb, 5, none⟩ kv').heap[wb]? := Below.heap_alloc _ _ _ (by omega)
  refine ⟨?_, blk2, ?_, fun j hj => ?_, fun j => ?_, ?_⟩
  · exact (((((hB6.mono (Nat.le_of_lt zwb)).alloc (by omega) ob).grown hg (by simp; omega) (fun k hk => by have := hlt k hk; omega)).setCell (p := ⟨wb, 5, none⟩) (Nat.le_refl _) kv')).alloc (by omega) ob2
  · have : ((w5.setCell ⟨wb, 5, none⟩ kv').alloc ob2).cell? ⟨wb, 5, none⟩ = (w5.setCell ⟨wb, 5, none⟩ kv').cell? ⟨wb, 5, none⟩ := World.cell?_of_block hal
    rw [this]
    exact World.cell?_setCell_same' _ _ _ (by simp [c5])
  · have : ((w5.setCell ⟨wb, 5, none⟩ kv').alloc ob2).cell? ⟨wb, j, none⟩ = (w5.setCell ⟨wb, 5, none⟩ kv').cell? ⟨wb, j, none⟩ := World.cell?_of_block hal
    rw [this, sset_other (fun e => hj e.symm)]
    exact World.cell?_of_block (a := ⟨wb, j, none⟩) hw5
  · have : ((w5.setCell ⟨wb, 5, none⟩ kv').alloc ob2).frozen? ⟨wb, j, none⟩ = (w5.setCell ⟨wb, 5, none⟩ kv').frozen? ⟨wb, j, none⟩ := World.frozen?_of_block hal
    rw [this, World.frozen?_setCell]
    exact World.frozen?_of_block (a := ⟨wb, j, none⟩) hw5
  · exact (sown_far ho (show wb < wb + 1 by omega) _).alloc _
theorem own_two (w : World) (b x y : Nat) (hb : b ≤ w.heap.size) : (w.alloc (.cells #[.int .u8 (x : Int), .int .u8 (y : Int)] 5)).ownsRow b 5 1 (.slice (some ⟨w.heap.size, 0, none⟩) 2 2) 2 (byV [x, y]) :=
  ⟨rfl, .inr ⟨w.heap.size, 2, _, rfl, hb, World.alloc_heap_new w _, Nat.le_refl _, by unfold maxLen; omega, rfl, rfl⟩⟩
set_option maxRecDepth 100000 in
set_option maxHeartbeats 3200000 in
theorem extend_ok (wb : Nat) (P Q G H k l : Int) (sa : Option Addr) (sc : Nat) (S : List Int) (kv : Value) (ks : List Nat) (w : World) (hw : WayX w wb P Q G H sa sc S kv ks) (s : Int) (hs : S[ks.length]? = some s) (hS3 : S.length ≤ 3) (hg : grpE P Q G H = 0)
    (s1 : 0 ≤ s) (s2 : s < Q) (k1 : 0 ≤ k) (k2 : k < Q) (l1 : 0 ≤ l) (l2 : l < Q) :
    Calls Try.prog 11 #[.pointer (some ⟨wb, 0, none⟩), .int .i64 k, .int .i64 l] w fun e w' => ∃ v kv', e = .returned (.tuple #[v, .int .i64 0]) ∧ w'.ownsRow w.heap.size 5 1 v 2 (byV [keyN P G s k l % 256, keyN P G s k l / 256]) ∧ Longer wb w w' kv kv' (ks ++ [keyN P G s k l]) := by
  obtain ⟨i0, hi, hz0, hz1, hz2⟩ := info_parts key_info
  have hu : Try.prog.underlying 42 = some (.slice 3) := by kernel_rfl
  obtain ⟨ka, kc, hkv, _⟩ := own_any hw.own
  have c5 := hw.c5
  have c4 := hw.c4
  rw [hkv] at c5
  have zwb : wb < w.heap.size := World.block_lt_of_cell? _ _ c5
  obtain ⟨sb, so, rfl, hsc⟩ := hw.row.shape (Nat.lt_of_le_of_lt (Nat.zero_le _) (List.getElem?_eq_some_iff.1 hs).1)
  have cs := hsc _ _ hs
  have zsb : sb < w.heap.size := World.block_lt_of_cell? _ _ cs
  have g0 := hw.g0
  have g1 := hw.g1
  have g2 := hw.g2
  have g3 := hw.g3
  have hnS : ks.length < S.length := (List.getElem?_eq_some_iff.1 hs).1
  obtain ⟨m, hm⟩ : ∃ m, S.length = m := ⟨_, rfl⟩
  obtain ⟨n, hn⟩ : ∃ n, ks.length = n := ⟨_, rfl⟩
  have HW := Lib.hid hw
  have HN := Lib.hid hn
  rw [hm, hn] at hnS
  rw [hm] at c4
  rw [hn] at c5 cs
  have hnm : (n : Int) < (m : Int) := by omega
  have hne : ((n : Int) == (m : Int)) = false := by simp; omega
  have ⟨⟨g1', g2', g3', g4', g5', _⟩, hpp, hqq, _, hgm, _⟩ := grpE_zero hg
  have hgG := (shE_zero (shE_ok hg (Int.le_refl 0) (by omega) (grpE_zero hg).2.2.2.2.1)).2.2.2
  have P1 : 1 ≤ P := by omega
  have mS := mem_pw (k := s) (by omega) (by omega) hgG s1
  have mK := mem_pw (k := k) (by omega) (by omega) hgG k1
  have mL := mem_pw (k := l) (by omega) (by omega) hgG l1
  have hs' := shE_ok hg s1 s2 hgG
  have hk := shE_ok hg k1 k2 hgG
  have hl := shE_ok hg l1 l2 hgG
  have HA := Lib.hid fun w => group_Public P Q G H s w hs'
  have HB := Lib.hid fun w => shake_Start P Q G H k w hk
  have HAns := Lib.hid fun w => shake_Answer P Q G H s l (pw G k P) w (by omega) g2' ⟨by have := pw_nonneg G k P1; omega, by have := pw_lt G k P1; omega⟩ hs' hl (shE_ok hg s1 s2 mK) (shE_ok hg l1 l2 mK)
  have HFin := Lib.hid fun (rT rK : Int) w => shake_Finish P Q G H k (pw G s P) (pw G l P) rT rK w (by omega) g2' ⟨by have := pw_nonneg G s P1; omega, by have := pw_lt G s P1; omega⟩ ⟨by have := pw_nonneg G l P1; omega, by have := pw_lt G l P1; omega⟩ hk (shE_ok hg k1 k2 mS) (shE_ok hg k1 k2 mL)
  have e1 : pw (pw G s P) k P = pw (pw G k P) s P := by rw [pw_pw G P s1 k1, pw_pw G P k1 s1, Int.mul_comm]
  have e2 : pw (pw G l P) k P = pw (pw G k P) l P := by rw [pw_pw G P l1 k1, pw_pw G P k1 l1, Int.mul_comm]
  rw [e1, e2] at HFin
  obtain ⟨T, hT⟩ : ∃ T, sumN (2 :: shkN (pw G k P) (pw G l P) (pw G s P) (pw (pw G k P) s P) (pw (pw G k P) l P)) = T := ⟨_, rfl⟩
  obtain ⟨Y, hY⟩ : ∃ T, sumN (1 :: shkN (pw G k P) (pw G l P) (pw G s P) (pw (pw G k P) s P) (pw (pw G k P) l P)) = T := ⟨_, rfl⟩
  have hYk : keyN P G s k l = Y := hY
  have hY16 : Y < 65536 := by rw [← hYk]; exact keyN_lt _ _ _ _ _
  rw [hT, hY] at HAns HFin
  rw [hYk]
  obtain ⟨X, hX⟩ : ∃ T, pw G s P = T := ⟨_, rfl⟩
  obtain ⟨K, hK⟩ : ∃ T, pw G k P = T := ⟨_, rfl⟩
  obtain ⟨E, hE⟩ : ∃ T, pw G l P = T := ⟨_, rfl⟩
  rw [hX] at HA HFin
  rw [hK] at HB HAns
  rw [hE] at HAns HFin
  have HF1 := Lib.hid fun (rK : Int) w => (HFin.out (T : Int) rK w).mono fun e w' h => (⟨h.1.1 rfl, h.2⟩ : e = .returned (.tuple #[.int .i64 Y, .int .i64 0]) ∧ _)
  have HKv := Lib.hid hkv
  have HS3 : Hid (n ≤ 3) := Lib.hid (by omega)
  have hwo : w.ownsRow (wb + 1) 3 1 kv n (kvV ks) := by rw [← hn]; exact hw.own
  rw [hkv] at hwo
  have HWO := Lib.hid hwo
  have HF5 := Lib.hid hw.f5
  have HY16 := Lib.hid hY16
  clear hwo hY16 hw hs hsc hm hn hkv hT hY hYk hX hK hE e1 e2 mS mK mL hs' hk hl HFin hg hgG hpp hqq hgm g1' g2' g3' g4' g5' s1 s2 k1 k2 l1 l2 P1 hS3
  go_enter Try.func11, Try.ntmps11
  go_wp2_with fail
  refine wp_region_D (S := (fun W : World => Below w.heap.size w W)) (fun _ => true) (by kernel_rfl) (Below.refl _ _).drew (fun hHeld => ?_)
  simp only [List.size_toArray, List.length_cons, List.length_nil, Nat.reduceAdd, Array.replicate_succ, Array.replicate_zero, List.push_toArray, List.append_toArray, List.nil_append, List.cons_append]
  refine WD_free (i := 0) (oi := _) (v := ?_) rfl (by kernel_rfl) (fun _ _ _ h => h) (Or.inl ⟨by rfl, ?_⟩) ?_
  rotate_left
  · (intro W hS; (try dsimp only at hS); clear hS; go_simp; with_reducible rfl)
  try simp only [Act.put, List.getElem_toArray, List.getElem_cons_succ, List.getElem_cons_zero, List.setIfInBounds_toArray, List.set_cons_zero, List.set_cons_succ]
  refine WD_free (i := 1) (oi := _) (v := ?_) rfl (by kernel_rfl) (fun _ _ _ h => h) (Or.inl ⟨by rfl, ?_⟩) ?_
  rotate_left
  · (intro W hS; (try dsimp only at hS); clear hS; go_simp; with_reducible rfl)
  try simp only [Act.put, List.getElem_toArray, List.getElem_cons_succ, List.getElem_cons_zero, List.setIfInBounds_toArray, List.set_cons_zero, List.set_cons_succ]
  refine WD_free (i := 2) (oi := _) (v := ?_) rfl (by kernel_rfl) (fun _ _ _ h => h) (Or.inl ⟨by rfl, ?_⟩) ?_
  rotate_left
  · (intro W hS; (try dsimp only at hS); clear hS; go_simp; with_reducible rfl)
  try simp only [Act.put, List.getElem_toArray, List.getElem_cons_succ, List.getElem_cons_zero, List.setIfInBounds_toArray, List.set_cons_zero, List.set_cons_succ]
  refine WD_take (i := 3) (oi := _) (v := ?_) rfl (by kernel_rfl) (fun _ _ _ h => h) (Or.inl ⟨by rfl, ?_⟩) (by assumption) ?_
  rotate_left
  · (intro W hS; (try dsimp only at hS); have kkc := (hS.cell (p := ⟨wb, 5, none⟩) zwb).trans c5; clear hS; go_simp; with_reducible rfl)
  try simp only [Act.put, List.getElem_toArray, List.getElem_cons_succ, List.getElem_cons_zero, List.setIfInBounds_toArray, List.set_cons_zero, List.set_cons_succ]
  refine WD_free (i := 4) (oi := _) (v := ?_) rfl (by kernel_rfl) (fun _ _ _ h => h) (Or.inl ⟨by rfl, ?_⟩) ?_
  rotate_left
  · (intro W hS; (try dsimp only at hS); clear hS; go_simp; with_reducible rfl)
  try simp only [Act.put, List.getElem_toArray, List.getElem_cons_succ, List.getElem_cons_zero, List.setIfInBounds_toArray, List.set_cons_zero, List.set_cons_succ]
  refine WD_free (i := 5) (oi := _) (v := ?_) rfl (by kernel_rfl) (fun _ _ _ h => h) (Or.inl ⟨by rfl, ?_⟩) ?_
  rotate_left
  · (intro W hS; (try dsimp only at hS); clear hS; go_simp; with_reducible rfl)
  try simp only [Act.put, List.getElem_toArray, List.getElem_cons_succ, List.getElem_cons_zero, List.setIfInBounds_toArray, List.set_cons_zero, List.set_cons_succ]
  refine WD_free (i := 6) (oi := _) (v := ?_) rfl (by kernel_rfl) (fun _ _ _ h => h) (Or.inl ⟨by rfl, ?_⟩) ?_
  rotate_left
  · (intro W hS; (try dsimp only at hS); clear hS; go_simp; with_reducible rfl)
  try simp only [Act.put, List.getElem_toArray, List.getElem_cons_succ, List.getElem_cons_zero, List.setIfInBounds_toArray, List.set_cons_zero, List.set_cons_succ]
  refine WD_free (i := 7) (oi := _) (v := ?_) rfl (by kernel_rfl) (fun _ _ _ h => h) (Or.inl ⟨by rfl, ?_⟩) ?_
  rotate_left
  · (intro W hS; (try dsimp only at hS); clear hS; go_simp; with_reducible rfl)
  try simp only [Act.put, List.getElem_toArray, List.getElem_cons_succ, List.getElem_cons_zero, List.setIfInBounds_toArray, List.set_cons_zero, List.set_cons_succ]
  refine WD_take (i := 8) (oi := _) (v := ?_) rfl (by kernel_rfl) (fun _ _ _ h => h) (Or.inl ⟨by rfl, ?_⟩) (by assumption) ?_
  rotate_left
  · (intro W hS; (try dsimp only at hS); have kkc := (hS.cell (p := ⟨wb, 4, none⟩) zwb).trans c4; clear hS; go_simp; with_reducible rfl)
  try simp only [Act.put, List.getElem_toArray, List.getElem_cons_succ, List.getElem_cons_zero, List.setIfInBounds_toArray, List.set_cons_zero, List.set_cons_succ]
  refine WD_free (i := 9) (oi := _) (v := ?_) rfl (by kernel_rfl) (fun _ _ _ h => h) (Or.inl ⟨by rfl, ?_⟩) ?_
  rotate_left
  · (intro W hS; (try dsimp only at hS); clear hS; go_simp; with_reducible rfl)
  try simp only [Act.put, List.getElem_toArray, List.getElem_cons_succ, List.getElem_cons_zero, List.setIfInBounds_toArray, List.set_cons_zero, List.set_cons_succ]
  refine WD_free (i := 10) (oi := _) (v := ?_) rfl (by kernel_rfl) (fun _ _ _ h => h) (Or.inl ⟨by rfl, ?_⟩) ?_
  rotate_left
  · (intro W hS; (try dsimp only at hS); clear hS; go_simp; with_reducible rfl)
  try simp only [Act.put, List.getElem_toArray, List.getElem_cons_succ, List.getElem_cons_zero, List.setIfInBounds_toArray, List.set_cons_zero, List.set_cons_succ]
  refine WD_done (by kernel_rfl) ?_ _
  go_wp2_with fail
  refine wp_region_D (S := (fun W : World => Below w.heap.size w W)) (fun _ => true) (by kernel_rfl) hHeld.drew (fun hHeld => ?_)
  simp only [List.size_toArray, List.length_cons, List.length_nil, Nat.reduceAdd, Array.replicate_succ, Array.replicate_zero, List.push_toArray, List.append_toArray, List.nil_append, List.cons_append]
  refine WD_free (i := 0) (oi := _) (v := ?_) rfl (by kernel_rfl) (fun _ _ _ h => h) (Or.inl ⟨by rfl, ?_⟩) ?_
  rotate_left
  · (intro W hS; (try dsimp only at hS); clear hS; go_simp; with_reducible rfl)
  try simp only [Act.put, List.getElem_toArray, List.getElem_cons_succ, List.getElem_cons_zero, List.setIfInBounds_toArray, List.set_cons_zero, List.set_cons_succ]
  refine WD_free (i := 1) (oi := _) (v := ?_) rfl (by kernel_rfl) (fun _ _ _ h => h) (Or.inl ⟨by rfl, ?_⟩) ?_
  rotate_left
  · (intro W hS; (try dsimp only at hS); clear hS; go_simp; with_reducible rfl)
  try simp only [Act.put, List.getElem_toArray, List.getElem_cons_succ, List.getElem_cons_zero, List.setIfInBounds_toArray, List.set_cons_zero, List.set_cons_succ]
  refine WD_free (i := 2) (oi := _) (v := ?_) rfl (by kernel_rfl) (fun _ _ _ h => h) (Or.inl ⟨by rfl, ?_⟩) ?_
  rotate_left
  · (intro W hS; (try dsimp only at hS); clear hS; go_simp; with_reducible rfl)
  try simp only [Act.put, List.getElem_toArray, List.getElem_cons_succ, List.getElem_cons_zero, List.setIfInBounds_toArray, List.set_cons_zero, List.set_cons_succ]
  refine WD_take (i := 3) (oi := _) (v := ?_) rfl (by kernel_rfl) (fun _ _ _ h => h) (Or.inl ⟨by rfl, ?_⟩) (by assumption) ?_
  rotate_left
  · (intro W hS; (try dsimp only at hS); have kkc := (hS.cell (p := ⟨wb, 4, none⟩) zwb).trans c4; clear hS; go_simp; with_reducible rfl)
  try simp only [Act.put, List.getElem_toArray, List.getElem_cons_succ, List.getElem_cons_zero, List.setIfInBounds_toArray, List.set_cons_zero, List.set_cons_succ]
  refine WD_free (i := 4) (oi := _) (v := ?_) rfl (by kernel_rfl) (fun _ _ _ h => h) (Or.inl ⟨by rfl, ?_⟩) ?_
  rotate_left
  · (intro W hS; (try dsimp only at hS); clear hS; go_simp; with_reducible rfl)
  try simp only [Act.put, List.getElem_toArray, List.getElem_cons_succ, List.getElem_cons_zero, List.setIfInBounds_toArray, List.set_cons_zero, List.set_cons_succ]
  refine WD_free (i := 5) (oi := _) (v := ?_) rfl (by kernel_rfl) (fun _ _ _ h => h) (Or.inl ⟨by rfl, ?_⟩) ?_
  rotate_left
  · (intro W hS; (try dsimp only at hS); clear hS; go_simp; with_reducible rfl)
  try simp only [Act.put, List.getElem_toArray, List.getElem_cons_succ, List.getElem_cons_zero, List.setIfInBounds_toArray, List.set_cons_zero, List.set_cons_succ]
  refine WD_free (i := 6) (oi := _) (v := ?_) rfl (by kernel_rfl) (fun _ _ _ h => h) (Or.inl ⟨by rfl, ?_⟩) ?_
  rotate_left
  · (intro W hS; (try dsimp only at hS); clear hS; go_simp; with_reducible rfl)
  try simp only [Act.put, List.getElem_toArray, List.getElem_cons_succ, List.getElem_cons_zero, List.setIfInBounds_toArray, List.set_cons_zero, List.set_cons_succ]
  refine WD_take (i := 7) (oi := _) (v := ?_) rfl (by kernel_rfl) (fun _ _ _ h => h) (Or.inl ⟨by rfl, ?_⟩) (by assumption) ?_
  rotate_left
  · (intro W hS; (try dsimp only at hS); have kkc := (hS.cell (p := ⟨wb, 5, none⟩) zwb).trans c5; clear hS; go_simp; with_reducible rfl)
  try simp only [Act.put, List.getElem_toArray, List.getElem_cons_succ, List.getElem_cons_zero, List.setIfInBounds_toArray, List.set_cons_zero, List.set_cons_succ]
  refine WD_free (i := 8) (oi := _) (v := ?_) rfl (by kernel_rfl) (fun _ _ _ h => h) (Or.inl ⟨by rfl, ?_⟩) ?_
  rotate_left
  · (intro W hS; (try dsimp only at hS); clear hS; go_simp; with_reducible rfl)
  try simp only [Act.put, List.getElem_toArray, List.getElem_cons_succ, List.getElem_cons_zero, List.setIfInBounds_toArray, List.set_cons_zero, List.set_cons_succ]
  refine WD_free (i := 9) (oi := _) (v := ?_) rfl (by kernel_rfl) (fun _ _ _ h => h) (Or.inl ⟨by rfl, ?_⟩) ?_
  rotate_left
  · (intro W hS; (try dsimp only at hS); clear hS; go_simp; with_reducible rfl)
  try simp only [Act.put, List.getElem_toArray, List.getElem_cons_succ, List.getElem_cons_zero, List.setIfInBounds_toArray, List.set_cons_zero, List.set_cons_succ]
  refine WD_take (i := 10) (oi := _) (v := ?_) rfl (by kernel_rfl) (fun _ _ _ h => h) (Or.inl ⟨by rfl, ?_⟩) (by assumption) ?_
  rotate_left
  · (intro W hS; (try dsimp only at hS); have kkc := (hS.cell (p := ⟨sb, so + n, none⟩) zsb).trans cs; clear hS; go_simp; with_reducible rfl)
  try simp only [Act.put, List.getElem_toArray, List.getElem_cons_succ, List.getElem_cons_zero, List.setIfInBounds_toArray, List.set_cons_zero, List.set_cons_succ]
  refine WD_free (i := 11) (oi := _) (v := ?_) rfl (by kernel_rfl) (fun _ _ _ h => h) (Or.inl ⟨by rfl, ?_⟩) ?_
  rotate_left
  · (intro W hS; (try dsimp only at hS); clear hS; go_simp; with_reducible rfl)
  try simp only [Act.put, List.getElem_toArray, List.getElem_cons_succ, List.getElem_cons_zero, List.setIfInBounds_toArray, List.set_cons_zero, List.set_cons_succ]
  refine WD_done (by kernel_rfl) ?_ _
  go_wp2_with fail
  refine (HB.out _).mono ?_
  rintro e w1 ⟨rfl, hb1⟩
  have hb := below_two hHeld hb1
  have a0 := kept hb g0 zwb
  have a1 := kept hb g1 zwb
  have a2 := kept hb g2 zwb
  have a3 := kept hb g3 zwb
  clear hHeld hb1
  go_wp2_with fail
  refine (HAns.out _).mono ?_
  rintro e w2 ⟨rfl, hb2⟩
  have hb3 := below_two hb hb2
  clear hb2 hb a0 a1 a2 a3
  have hb3a : Below w.heap.size w (w2.alloc (.cells #[.int .i64 E, .int .i64 (T : Int), .int .i64 (Y : Int)] 57)) := hb3.alloc hb3.size _
  have a0 := kept hb3a g0 zwb
  have a1 := kept hb3a g1 zwb
  have a2 := kept hb3a g2 zwb
  have a3 := kept hb3a g3 zwb
  go_wp2_with fail
  refine (HA.out _).mono ?_
  rintro e w3 ⟨rfl, hb4⟩
  obtain ⟨rb, hrb⟩ : ∃ b, w2.heap.size = b := ⟨_, rfl⟩
  have r0 := kept hb4 (b := w2.heap.size) (o := 0) (v := .int .i64 E) (by simp [go_sem]) (by simp)
  have r1 := kept hb4 (b := w2.heap.size) (o := 1) (v := .int .i64 (T : Int)) (by simp [go_sem]) (by simp)
  have r2 := kept hb4 (b := w2.heap.size) (o := 2) (v := .int .i64 (Y : Int)) (by simp [go_sem]) (by simp)
  have hb5 := below_two hb3a hb4
  rw [hrb] at r0 r1 r2 ⊢
  have zrb : rb < w3.heap.size := World.block_lt_of_cell? _ _ r0
  have zwb3 : wb < w3.heap.size := Nat.lt_of_lt_of_le zwb hb5.size
  clear a0 a1 a2 a3 hb3a hb3 hb4 hrb
  have h0 := kept hb5 g0 zwb
  have h1 := kept hb5 g1 zwb
  have h2 := kept hb5 g2 zwb
  have h3 := kept hb5 g3 zwb
  clear g0 g1 g2 g3 hHeld
  go_wp2_with fail
  refine wp_region_D (S := (fun W : World => Below w3.heap.size w3 W)) (fun _ => true) (by kernel_rfl) (Below.refl _ _).drew (fun hHeld => ?_)
  simp only [List.size_toArray, List.length_cons, List.length_nil, Nat.reduceAdd, Array.replicate_succ, Array.replicate_zero, List.push_toArray, List.append_toArray, List.nil_append, List.cons_append]
  refine WD_free (i := 0) (oi := _) (v := ?_) rfl (by kernel_rfl) (fun _ _ _ h => h) (Or.inl ⟨by rfl, ?_⟩) ?_
  rotate_left
  · (intro W hS; (try dsimp only at hS); clear hS; go_simp; with_reducible rfl)
  try simp only [Act.put, List.getElem_toArray, List.getElem_cons_succ, List.getElem_cons_zero, List.setIfInBounds_toArray, List.set_cons_zero, List.set_cons_succ]
  refine WD_free (i := 1) (oi := _) (v := ?_) rfl (by kernel_rfl) (fun _ _ _ h => h) (Or.inl ⟨by rfl, ?_⟩) ?_
  rotate_left
  · (intro W hS; (try dsimp only at hS); clear hS; go_simp; with_reducible rfl)
  try simp only [Act.put, List.getElem_toArray, List.getElem_cons_succ, List.getElem_cons_zero, List.setIfInBounds_toArray, List.set_cons_zero, List.set_cons_succ]
  refine WD_free (i := 2) (oi := _) (v := ?_) rfl (by kernel_rfl) (fun _ _ _ h => h) (Or.inl ⟨by rfl, ?_⟩) ?_
  rotate_left
  · (intro W hS; (try dsimp only at hS); clear hS; go_simp; with_reducible rfl)
  try simp only [Act.put, List.getElem_toArray, List.getElem_cons_succ, List.getElem_cons_zero, List.setIfInBounds_toArray, List.set_cons_zero, List.set_cons_succ]
  refine WD_take (i := 3) (oi := _) (v := ?_) rfl (by kernel_rfl) (fun _ _ _ h => h) (Or.inl ⟨by rfl, ?_⟩) (by assumption) ?_
  rotate_left
  · (intro W hS; (try dsimp only at hS); have kk0 := (hS.cell (p := ⟨wb, 0, none⟩) zwb3).trans h0; have kk1 := (hS.cell (p := ⟨wb, 1, none⟩) zwb3).trans h1; have kk2 := (hS.cell (p := ⟨wb, 2, none⟩) zwb3).trans h2; have kk3 := (hS.cell (p := ⟨wb, 3, none⟩) zwb3).trans h3; clear hS; go_simp; with_reducible rfl)
  try simp only [Act.put, List.getElem_toArray, List.getElem_cons_succ, List.getElem_cons_zero, List.setIfInBounds_toArray, List.set_cons_zero, List.set_cons_succ]
  refine WD_free (i := 4) (oi := _) (v := ?_) rfl (by kernel_rfl) (fun _ _ _ h => h) (Or.inl ⟨by rfl, ?_⟩) ?_
  rotate_left
  · (intro W hS; (try dsimp only at hS); clear hS; go_simp; with_reducible rfl)
  try simp only [Act.put, List.getElem_toArray, List.getElem_cons_succ, List.getElem_cons_zero, List.setIfInBounds_toArray, List.set_cons_zero, List.set_cons_succ]
  refine WD_free (i := 5) (oi := _) (v := ?_) rfl (by kernel_rfl) (fun _ _ _ h => h) (Or.inl ⟨by rfl, ?_⟩) ?_
  rotate_left
  · (intro W hS; (try dsimp only at hS); clear hS; go_simp; with_reducible rfl)
  try simp only [Act.put, List.getElem_toArray, List.getElem_cons_succ, List.getElem_cons_zero, List.setIfInBounds_toArray, List.set_cons_zero, List.set_cons_succ]
  refine WD_take (i := 6) (oi := _) (v := ?_) rfl (by kernel_rfl) (fun _ _ _ h => h) (Or.inl ⟨by rfl, ?_⟩) (by assumption) ?_
  rotate_left
  · (intro W hS; (try dsimp only at hS); have kkr0 := (hS.cell (p := ⟨rb, 0, none⟩) zrb).trans r0; have kkr1 := (hS.cell (p := ⟨rb, 1, none⟩) zrb).trans r1; have kkr2 := (hS.cell (p := ⟨rb, 2, none⟩) zrb).trans r2; clear hS; go_simp; with_reducible rfl)
  try simp only [Act.put, List.getElem_toArray, List.getElem_cons_succ, List.getElem_cons_zero, List.setIfInBounds_toArray, List.set_cons_zero, List.set_cons_succ]
  refine WD_step (i := 7) (o := _) rfl (by kernel_rfl) (fun K hK => ?_)
  go_simp
  refine (HF1.out _ _).mono ?_
  rintro e w4 ⟨rfl, hb4⟩
  go_wp2_with fail
  replace hHeld := below_two hHeld hb4
  refine hK.out _ _ (fun _ _ => hHeld) ?_
  clear hK K
  try simp only [Act.put, List.getElem_toArray, List.getElem_cons_succ, List.getElem_cons_zero, List.setIfInBounds_toArray, List.set_cons_zero, List.set_cons_succ]
  refine WD_free (i := 8) (oi := _) (v := ?_) rfl (by kernel_rfl) (fun _ _ _ h => h) (Or.inl ⟨by rfl, ?_⟩) ?_
  rotate_left
  · (intro W hS; (try dsimp only at hS); clear hS; go_simp; with_reducible rfl)
  try simp only [Act.put, List.getElem_toArray, List.getElem_cons_succ, List.getElem_cons_zero, List.setIfInBounds_toArray, List.set_cons_zero, List.set_cons_succ]
  refine WD_free (i := 9) (oi := _) (v := ?_) rfl (by kernel_rfl) (fun _ _ _ h => h) (Or.inl ⟨by rfl, ?_⟩) ?_
  rotate_left
  · (intro W hS; (try dsimp only at hS); clear hS; go_simp; with_reducible rfl)
  try simp only [Act.put, List.getElem_toArray, List.getElem_cons_succ, List.getElem_cons_zero, List.setIfInBounds_toArray, List.set_cons_zero, List.set_cons_succ]
  refine WD_free (i := 10) (oi := _) (v := ?_) rfl (by kernel_rfl) (fun _ _ _ h => h) (Or.inl ⟨by rfl, ?_⟩) ?_
  rotate_left
  · (intro W hS; (try dsimp only at hS); clear hS; go_simp; with_reducible rfl)
  try simp only [Act.put, List.getElem_toArray, List.getElem_cons_succ, List.getElem_cons_zero, List.setIfInBounds_toArray, List.set_cons_zero, List.set_cons_succ]
  refine WD_free (i := 11) (oi := _) (v := ?_) rfl (by kernel_rfl) (fun _ _ _ h => h) (Or.inl ⟨by rfl, ?_⟩) ?_
  rotate_left
  · (intro W hS; (try dsimp only at hS); clear hS; go_simp; with_reducible rfl)
  try simp only [Act.put, List.getElem_toArray, List.getElem_cons_succ, List.getElem_cons_zero, List.setIfInBounds_toArray, List.set_cons_zero, List.set_cons_succ]
  refine WD_free (i := 12) (oi := _) (v := ?_) rfl (by kernel_rfl) (fun _ _ _ h => h) (Or.inl ⟨by rfl, ?_⟩) ?_
  rotate_left
  · (intro W hS; (try dsimp only at hS); clear hS; go_simp; with_reducible rfl)
  try simp only [Act.put, List.getElem_toArray, List.getElem_cons_succ, List.getElem_cons_zero, List.setIfInBounds_toArray, List.set_cons_zero, List.set_cons_succ]
  refine WD_done (by kernel_rfl) ?_ _
  have hb6 := hb5.trans (hHeld.mono hb5.size)
  have c5w := kept hb6 c5 zwb
  have f5w := (hb6.frozen (p := ⟨wb, 5, none⟩) zwb).trans HF5.out
  have ho4 : w4.ownsRow (wb + 1) 3 1 (.slice ka n kc) n (kvV ks) := own_keep (by have := HWO.out; rw [HN.out] at this; exact this) hb6
  have zwb4 : wb < w4.heap.size := Nat.lt_of_lt_of_le zwb hb6.size
  have HB6 := Lib.hid hb6
  have hn3 := HS3.out
  clear hb6 hb5 hHeld h0 h1 h2 h3 r0 r1 r2 c4 cs zrb zwb3
  go_wp2_with (first
    | (at_builtin; refine wpList_append_own _ rfl _ _ 42 rfl (wb + 1) 3 i0 (.int .i64 0) 1 8 hu hi hz0 hz1 hz2 rfl (by decide) _ _ _ rfl (ho4.alloc _) ⟨w4.heap.size, 0, none⟩ 1 1 [.int .i64 (Y : Int)] rfl rfl (cell_newK rfl rfl) (by simp [Value.oneCell']) (by unfold maxLen; omega) (by omega) (by simp; omega) ?_; intro v' w5 hown5 hg5 hnil5; obtain ⟨k5, k5c, rfl, _⟩ := own_any hown5; have c5w5 := cell_grown hg5 (o := 5) (show wb < (w4.alloc (.cells #[.int .i64 (Y : Int)] 3)).heap.size by simp; omega) (fun e => by have := (ho4.lt wb e.symm).1; omega); have f5w5 := frozen_grown hg5 (o := 5) (show wb < (w4.alloc (.cells #[.int .i64 (Y : Int)] 3)).heap.size by simp; omega) (fun e => by have := (ho4.lt wb e.symm).1; omega); rw [kept (alloc_below w4 _) c5w zwb4] at c5w5; rw [(alloc_below w4 _).frozen (p := ⟨wb, 5, none⟩) zwb4, f5w] at f5w5))
  refine bodyPost_ret (v := .tuple #[.slice (some ⟨w5.heap.size, 0, none⟩) 2 2, .int .i64 0]) ?_ rfl ?_
  · simp [results, Try.f11, go_sem]
  have hz6 := HB6.out.size
  have hz5 := hg5.size
  simp only [World.size_alloc] at hz5
  have hkk : kvV ks ++ [.int .i64 (Y : Int)] = kvV (ks ++ [Y]) := by simp [kvV]
  have hln : n + 1 = (ks ++ [Y]).length := by rw [List.length_append, HN.out]; rfl
  rw [hkk] at hown5
  have hown6 : w5.ownsRow (wb + 1) 3 1 (.slice k5 (n + 1) k5c) (ks ++ [Y]).length (kvV (ks ++ [Y])) := by rw [← hln]; exact hown5
  have hkv2 : kv = .slice ka n kc := by rw [HKv.out, HN.out]
  have HLo := longer_of (kv := kv) (kv' := .slice k5 (n + 1) k5c) (ks' := ks ++ [Y]) (ob2 := .cells #[.int .u8 ((Y : Int) % 256), .int .u8 ((Y : Int) / 256 % 256)] 5) HB6.out zwb hg5 (by rw [hkv2]; rfl) (fun k hk => by rw [hkv2] at hk; exact (ho4.lt k hk).1) (by rw [hkv2]; exact c5w5) hown6
  have hy := HY16.out
  have hy2 : ((Y : Int) / 256 % 256) = ((Y / 256 : Nat) : Int) := by omega
  have hy1 : ((Y : Int) % 256) = ((Y % 256 : Nat) : Int) := by omega
  rw [hy1, hy2] at HLo ⊢
  have hO2 := own_two (w5.setCell ⟨wb, 5, none⟩ (.slice k5 (n + 1) k5c)) w.heap.size (Y % 256) (Y / 256) (by rw [setCell_size]; omega)
  rw [setCell_size] at hO2
  exact ⟨_, _, rfl, hO2, HLo⟩
end Go.Proofs.Ytkodhpjmmiapaaa

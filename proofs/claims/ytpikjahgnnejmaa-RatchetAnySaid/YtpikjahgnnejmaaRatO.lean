/- The contract of (*taker).open. -/
import Derived.Test.YtpikjahgnnejmaaRat
import Derived.Test.YtpikjahgnnejmaaMapS
namespace Go.Proofs.Ytpikjahgnnejmaa
open Go.RowKit Go.Maps
set_option linter.unusedVariables false
set_option linter.unusedSimpArgs false
def keyN (k0 : Nat) : Nat → Nat
  | 0 => k0
  | i + 1 => partN (keyN k0 i) 2
theorem keyN_lt {k0 : Nat} (h : k0 < 65536) : ∀ i, keyN k0 i < 65536
  | 0 => h
  | i + 1 => partN_lt _ _
def msgN (k0 i : Nat) : Nat := partN (keyN k0 i) 1
theorem msgN_lt (k0 i : Nat) : msgN k0 i < 65536 := partN_lt _ _
/-- what the map holds -/
structure KRel (D : DataW Unit) (k0 : Nat) (K : List Nat) : Prop where
  has : ∀ i : Nat, Maps.has D (.int .i64 (i : Int)) = decide (i ∈ K)
  val : ∀ i ∈ K, D.atKey (.int .i64 (i : Int)) (.lit (.int .i64 0)) = .lit (.int .i64 ((msgN k0 i : Nat) : Int))
  size : Maps.size D = K.length
  nd : K.Nodup
theorem KRel.nil (k0 : Nat) : KRel (.map []) k0 [] := ⟨fun i => by simp [Maps.has_eq], (fun i h => by cases h), rfl, List.nodup_nil⟩
theorem lit_ne {i j : Nat} (h : i ≠ j) : (Lit.int .i64 (i : Int)) ≠ .int .i64 (j : Int) := fun e => h (by cases e; omega)
theorem KRel.put {D : DataW Unit} {k0 : Nat} {K : List Nat} (h : KRel D k0 K) (ht : Tidy D) {i : Nat} (hi : i ∉ K) : KRel (D.put (.int .i64 (i : Int)) (.lit (.int .i64 ((msgN k0 i : Nat) : Int)))) k0 (K ++ [i]) where
  has := fun j => by
    by_cases e : j = i
    · subst e; rw [has_put_same ht.isMap (by trivial)]; simp
    · rw [has_put_other (lit_ne e), h.has j]; simp [e]
  val := fun j hj => by
    by_cases e : j = i
    · subst e; rw [atKey_put_same ht.isMap (by trivial)]
    · rw [atKey_put_other (lit_ne e)]
      refine h.val j ?_
      rcases List.mem_append.1 hj with h1 | h1
      · exact h1
      · exact absurd (List.mem_singleton.1 h1) e
  size := by
    have h2 := h.has i
    rw [decide_eq_false hi] at h2
    rw [size_put ht, h2, h.size]; simp
  nd := by
    refine List.nodup_append.2 ⟨h.nd, by simp, fun a ha b hb => ?_⟩
    rw [List.mem_singleton.1 hb]
    exact fun e => hi (e ▸ ha)
theorem KRel.del {D : DataW Unit} {k0 : Nat} {K : List Nat} (h : KRel D k0 K) (ht : Tidy D) {i : Nat} (hi : i ∈ K) : KRel (D.del (.int .i64 (i : Int))) k0 (K.erase i) where
  has := fun j => by
    by_cases e : j = i
    · subst e; rw [has_del_same]; simp [h.nd.mem_erase_iff]
    · rw [has_del_other (lit_ne e), h.has j]; simp [h.nd.mem_erase_iff, e]
  val := fun j hj => by
    rw [h.nd.mem_erase_iff] at hj
    rw [atKey_del_other (lit_ne hj.1)]
    exact h.val j hj.2
  size := by
    have h2 := h.has i
    rw [decide_eq_true hi] at h2
    have h3 := size_del (k := .int .i64 (i : Int)) ht
    rw [h2, h.size] at h3
    rw [List.length_erase_of_mem hi]
    simp at h3; omega
  nd := h.nd.erase i
/-- who takes: to where it has come, and which keys it keeps -/
structure Tk (W : World) (g bm k0 A most : Nat) (K : List Nat) : Prop where
  blk : W.heap[g]? = some (.cells #[.int .i64 (keyN k0 A : Nat), .int .i64 (A : Nat), .int .i64 (most : Nat), .map (some bm)] 90 (0, 0))
  mp : ∃ (D : DataW Unit) (n : Nat), W.ownsMap Try.prog 3 (plainElem Try.prog 3) bm n D ∧ n ≤ A ∧ KRel D k0 K
  lt : ∀ i ∈ K, i < A
theorem Tk.ne {W : World} {g bm k0 A most : Nat} {K : List Nat} (h : Tk W g bm k0 A most K) : bm ≠ g := fun e => by
  obtain ⟨D, n, ⟨es, clock, h1, _⟩, _⟩ := h.mp
  rw [e, h.blk] at h1; cases h1
theorem Tk.cell {W : World} {g bm k0 A most : Nat} {K : List Nat} (h : Tk W g bm k0 A most K) :
    W.cell? ⟨g, 0, none⟩ = some (.int .i64 (keyN k0 A : Nat)) ∧ W.cell? ⟨g, 1, none⟩ = some (.int .i64 (A : Nat)) ∧ W.cell? ⟨g, 2, none⟩ = some (.int .i64 (most : Nat)) ∧ W.cell? ⟨g, 3, none⟩ = some (.map (some bm)) ∧ W.frozen? ⟨g, 0, none⟩ = false ∧ W.frozen? ⟨g, 1, none⟩ = false := by
  have hb := h.blk
  refine ⟨?_, ?_, ?_, ?_, ?_, ?_⟩ <;> simp [World.cell?, World.frozen?, hb]
/-- all but two blocks are as they were -/
structure But (w w' : World) (g bm : Nat) : Prop where
  os : w'.os = w.os
  tape : w'.tape = w.tape
  output : w'.output = w.output
  size : w.heap.size ≤ w'.heap.size
  block : ∀ k, k < w.heap.size → k ≠ g → k ≠ bm → w'.heap[k]? = w.heap[k]?
theorem But.refl (w : World) (g bm : Nat) : But w w g bm := ⟨rfl, rfl, rfl, Nat.le_refl _, fun _ _ _ _ => rfl⟩
theorem But.trans {a b c : World} {g bm : Nat} (h : But a b g bm) (k : But b c g bm) : But a c g bm :=
  ⟨k.os.trans h.os, k.tape.trans h.tape, k.output.trans h.output, Nat.le_trans h.size k.size, fun i hi h1 h2 => (k.block i (Nat.lt_of_lt_of_le hi h.size) h1 h2).trans (h.block i hi h1 h2)⟩
theorem But.of_below {w w' : World} (h : Below w.heap.size w w') (g bm : Nat) : But w w' g bm := ⟨h.os, h.tape, h.output, h.size, fun k hk _ _ => h.block k hk⟩
theorem But.set (w : World) (g bm o : Nat) (v : Value) : But w (w.setCell ⟨g, o, none⟩ v) g bm := ⟨rfl, rfl, rfl, by simp, fun k hk h1 _ => Below.heap_setCell _ _ _ _ h1⟩
theorem But.drewN {w w' : World} {g bm : Nat} (h : But w w' g bm) (n : Nat) : But w (w'.drewN n) g bm := h.trans (But.of_below (below_drewN (Below.refl _ _) n) g bm)
theorem But.grown {w w' : World} {g bm : Nat} (h : w.grownBy w' (some bm)) : But w w' g bm := ⟨h.os, h.tape, h.output, h.size, fun k hk _ h2 => h.block k hk (fun e => h2 (Option.some.inj e))⟩
theorem But.below {w w' : World} {g bm B : Nat} (h : But w w' g bm) (hB : B ≤ w.heap.size) (hg : B ≤ g) (hb : B ≤ bm) : Below B w w' := ⟨h.os, h.tape, h.output, h.size, fun k hk => h.block k (by omega) (by omega) (by omega)⟩
/-- what opening a number gives -/
def openN (k0 most A : Nat) (K : List Nat) (n : Nat) : (Nat × Nat) × Nat × List Nat :=
  if n < A then (if n ∈ K then ((msgN k0 n, 0), A, K.erase n) else ((0, 5), A, K))
  else if most < K.length + n - A then ((0, 1), A, K)
  else ((msgN k0 n, 0), n + 1, K ++ (List.range (n - A)).map (A + ·))
theorem int_law : Keyed Try.prog 3 := int_keyed (P := Try.prog) (q := .i64) (by kernel_rfl)
theorem zero_int (W : World) : (zeroValue 3).run Try.prog W = .ok (.int .i64 0) W := by kernel_rfl
set_option maxRecDepth 20000 in
set_option maxHeartbeats 3200000 in
theorem open_old (g bm k0 A most n : Nat) (K : List Nat) (w : World) (hk0 : k0 < 65536) (h : Tk w g bm k0 A most K) (hA : A ≤ 1000) (hn : n ≤ 1000) (hm : most ≤ 1000) (hK : K.length ≤ 1000) (h1 : n < A) :
    Calls Try.prog 47 #[.pointer (some ⟨g, 0, none⟩), .int .i64 n] w fun e w' =>
      e = .returned (.tuple #[.int .i64 ((openN k0 most A K n).1.1 : Nat), .int .i64 ((openN k0 most A K n).1.2 : Nat)]) ∧ Tk w' g bm k0 (openN k0 most A K n).2.1 most (openN k0 most A K n).2.2 ∧ But w w' g bm := by
  obtain ⟨c0, c1, c2, c3, f0, f1⟩ := h.cell
  obtain ⟨D, nn, hown, hnn, hrel⟩ := h.mp
  have hlt := h.lt
  have hne := h.ne
  have um : Try.prog.underlying 88 = some (.map 3 3) := by kernel_rfl
  have ui : Try.prog.underlying 3 = some (.int .i64) := by kernel_rfl
  have HT := Lib.hid h
  have hkey : keyOf Try.prog 3 (.int .i64 (n : Int)) = some (.int .i64 (n : Int)) := keyOf_int_mk ui (WalkArith.wf_i64 (by omega))
  · by_cases h2 : n ∈ K
    · have e : openN k0 most A K n = ((msgN k0 n, 0), A, K.erase n) := by unfold openN; rw [if_pos h1, if_pos h2]
      rw [e]
      have hh := hrel.has n
      rw [decide_eq_true h2] at hh
      have hv := hrel.val n h2
      have HD := Lib.hid (hrel.del (hown.tidy int_law) h2)
      clear h hrel e
      have hz : g < w.heap.size := World.block_lt_of_cell? w _ c0
      go_enter Try.func47, Try.ntmps47
      go_wp2_with (first
        | (at_lookup; refine wpList_lookup_own_ok_int _ rfl _ _ 88 rfl 3 3 .i64 int_law um ui (zero_int _) bm nn D rfl hown _ _ rfl hkey ?_; intro cc hat hwc; rw [hv] at hat; cases hat; rw [hh])
        | (at_delete; refine wpList_delete_own _ rfl _ _ 88 3 rfl 3 int_law um _ bm nn D rfl hown _ _ rfl hkey ?_; intro w1 hown1 hturn1))
      go_ret2
      have hg1 := hturn1.grown
      refine ⟨rfl, ⟨(hg1.block g hz (fun e => hne (Option.some.inj e).symm)).trans HT.out.blk, ⟨_, nn, hown1, hnn, HD.out⟩, fun i hi => hlt i (List.mem_of_mem_erase hi)⟩, But.grown hg1⟩
    · have e : openN k0 most A K n = ((0, 5), A, K) := by unfold openN; rw [if_pos h1, if_neg h2]
      rw [e]
      have hh := hrel.has n
      rw [decide_eq_false h2] at hh
      clear h hrel e hlt
      go_enter Try.func47, Try.ntmps47
      go_wp2_with (first
        | (at_lookup; refine wpList_lookup_own_ok_int _ rfl _ _ 88 rfl 3 3 .i64 int_law um ui (zero_int _) bm nn D rfl hown _ _ rfl hkey ?_; intro cc hat hwc; rw [hh]))
      go_ret2
      exact ⟨rfl, HT.out, But.refl _ _ _⟩
end Go.Proofs.Ytpikjahgnnejmaa

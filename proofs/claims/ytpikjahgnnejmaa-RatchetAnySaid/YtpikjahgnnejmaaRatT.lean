/- The contract of (*taker).open. -/
import Derived.Test.YtpikjahgnnejmaaRatO
import Derived.Deep.RegionWith
namespace Go.Proofs.Ytpikjahgnnejmaa
open Go.RowKit Go.Maps
set_option linter.unusedVariables false
set_option linter.unusedSimpArgs false
theorem set_blk {W : World} {g o : Nat} {cs : Array Value} {t : TypeId} {fr : Nat × Nat} (h : W.heap[g]? = some (.cells cs t fr)) (v : Value) : (W.setCell ⟨g, o, none⟩ v).heap[g]? = some (.cells (cs.setIfInBounds o v) t fr) := by
  simp [World.setCell, Array.getElem?_modify, h]
/-- between: the key has turned -/
structure TkT (W : World) (g bm k0 A most : Nat) (K : List Nat) : Prop where
  blk : W.heap[g]? = some (.cells #[.int .i64 (keyN k0 (A + 1) : Nat), .int .i64 (A : Nat), .int .i64 (most : Nat), .map (some bm)] 90 (0, 0))
  mp : ∃ (D : DataW Unit) (n : Nat), W.ownsMap Try.prog 3 (plainElem Try.prog 3) bm n D ∧ n ≤ A ∧ KRel D k0 K
  lt : ∀ i ∈ K, i < A
  ne : bm ≠ g
theorem Tk.glt {W : World} {g bm k0 A most : Nat} {K : List Nat} (h : Tk W g bm k0 A most K) : g < W.heap.size ∧ bm < W.heap.size := by
  refine ⟨(Array.getElem?_eq_some_iff.1 h.blk).1, ?_⟩
  obtain ⟨D, n, ⟨es, clock, h1, _⟩, _⟩ := h.mp
  exact (Array.getElem?_eq_some_iff.1 h1).1
theorem Tk.same {W W' : World} {g bm k0 A most : Nat} {K : List Nat} (h : Tk W g bm k0 A most K) (h1 : W'.heap[g]? = W.heap[g]?) (h2 : W'.heap[bm]? = W.heap[bm]?) : Tk W' g bm k0 A most K := by
  obtain ⟨D, n, ho, hn, hr⟩ := h.mp
  exact ⟨h1.trans h.blk, ⟨D, n, ownsMap_block ho h2, hn, hr⟩, h.lt⟩
theorem Tk.below {W W' : World} {g bm k0 A most : Nat} {K : List Nat} (h : Tk W g bm k0 A most K) (hb : Below W.heap.size W W') : Tk W' g bm k0 A most K :=
  h.same (hb.block g h.glt.1) (hb.block bm h.glt.2)
theorem turned {W W1 : World} {g bm k0 A most : Nat} {K : List Nat} (h : Tk W g bm k0 A most K) (hb : Below W.drew.heap.size W.drew W1) : TkT (W1.setCell ⟨g, 0, none⟩ (.int .i64 (partN (keyN k0 A) 2 : Nat))) g bm k0 A most K := by
  have h2 : Tk W1 g bm k0 A most K := Tk.below (W := W.drew) (h.same rfl rfl) hb
  obtain ⟨D, n, ho, hn, hr⟩ := h2.mp
  exact ⟨by rw [set_blk h2.blk]; rfl, ⟨D, n, ownsMap_block ho (Below.heap_setCell _ _ _ _ h2.ne), hn, hr⟩, h2.lt, h2.ne⟩
theorem TkT.next {w2 w3 : World} {g bm k0 A most n2 : Nat} {K : List Nat} {D2 : DataW Unit} (h : TkT w2 g bm k0 A most K) (hn2 : n2 ≤ A) (hr : KRel D2 k0 K) (ht : Tidy D2)
    (ho : w3.ownsMap Try.prog 3 (plainElem Try.prog 3) bm (n2 + 1) (D2.put (.int .i64 (A : Int)) (.lit (.int .i64 ((msgN k0 A : Nat) : Int))))) (hg : w2.grownBy w3 (some bm)) :
    Tk (w3.setCell ⟨g, 1, none⟩ (.int .i64 ((A + 1 : Nat) : Int))) g bm k0 (A + 1) most (K ++ [A]) := by
  have hlt : g < w2.heap.size := (Array.getElem?_eq_some_iff.1 h.blk).1
  have hb : w3.heap[g]? = _ := (hg.block g hlt (fun e => h.ne (Option.some.inj e).symm)).trans h.blk
  have hA : A ∉ K := fun hm => by have := h.lt A hm; omega
  refine ⟨by rw [set_blk hb]; rfl, ⟨_, n2 + 1, ownsMap_block ho (Below.heap_setCell _ _ _ _ h.ne), by omega, hr.put ht hA⟩, fun i hi => ?_⟩
  rcases List.mem_append.1 hi with h1 | h1
  · have := h.lt i h1; omega
  · rw [List.mem_singleton.1 h1]; omega
theorem TkT.cells {w2 w3 : World} {g bm k0 A most : Nat} {K : List Nat} (h : TkT w2 g bm k0 A most K) (hg : w2.grownBy w3 (some bm)) : w3.cell? ⟨g, 1, none⟩ = some (.int .i64 (A : Nat)) ∧ w3.frozen? ⟨g, 1, none⟩ = false := by
  have hlt : g < w2.heap.size := (Array.getElem?_eq_some_iff.1 h.blk).1
  have hb : w3.heap[g]? = _ := (hg.block g hlt (fun e => h.ne (Option.some.inj e).symm)).trans h.blk
  constructor <;> simp [World.cell?, World.frozen?, hb]
/-- at its end -/
theorem Tk.last {W W1 : World} {g bm k0 A most : Nat} {K : List Nat} (h : Tk W g bm k0 A most K) (hb : Below (W.setCell ⟨g, 1, none⟩ (.int .i64 ((A + 1 : Nat) : Int))).heap.size (W.setCell ⟨g, 1, none⟩ (.int .i64 ((A + 1 : Nat) : Int))) W1) :
    Tk (W1.setCell ⟨g, 0, none⟩ (.int .i64 (partN (keyN k0 A) 2 : Nat))) g bm k0 (A + 1) most K := by
  obtain ⟨D, n, ho, hn, hr⟩ := h.mp
  have hl := h.glt
  have e1 : W1.heap[g]? = some (.cells #[.int .i64 (keyN k0 A : Nat), .int .i64 ((A + 1 : Nat) : Int), .int .i64 (most : Nat), .map (some bm)] 90 (0, 0)) := by
    rw [hb.block g (by simpa using hl.1), set_blk h.blk]; rfl
  have e2 : W1.heap[bm]? = W.heap[bm]? := by
    rw [hb.block bm (by simpa using hl.2)]; exact Below.heap_setCell _ _ _ _ h.ne
  exact ⟨by rw [set_blk e1]; rfl, ⟨D, n, ownsMap_block ho ((Below.heap_setCell _ _ _ _ h.ne).trans e2), by omega, hr⟩, fun i hi => by have := h.lt i hi; omega⟩
theorem sKeep (W W1 : World) (g bm B : Nat) (v : Value) (hb : Below W.heap.size W W1) (hS : W.cell? ⟨g, 3, none⟩ = some (.map (some bm)) ∧ W.cell? ⟨g, 1, none⟩ = some (.int .i64 (B : Nat))) :
    (W1.setCell ⟨g, 0, none⟩ v).cell? ⟨g, 3, none⟩ = some (.map (some bm)) ∧ (W1.setCell ⟨g, 0, none⟩ v).cell? ⟨g, 1, none⟩ = some (.int .i64 (B : Nat)) := by
  have h3 := kept hb hS.1 (World.block_lt_of_cell? W _ hS.1)
  have h1 := kept hb hS.2 (World.block_lt_of_cell? W _ hS.2)
  exact ⟨by rw [World.cell?_setCell_other _ _ _ _ (by simp)]; exact h3, by rw [World.cell?_setCell_other _ _ _ _ (by simp)]; exact h1⟩
theorem keep_snoc (K : List Nat) {A B : Nat} (h : A ≤ B) : (K ++ (List.range (B - A)).map (A + ·)) ++ [B] = K ++ (List.range (B + 1 - A)).map (A + ·) := by
  rw [show B + 1 - A = (B - A) + 1 by omega, List.range_succ, List.map_append, List.append_assoc]
  simp; omega
end Go.Proofs.Ytpikjahgnnejmaa

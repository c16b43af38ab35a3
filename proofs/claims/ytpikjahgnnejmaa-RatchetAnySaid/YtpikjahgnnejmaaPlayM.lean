/- The world while ratchet.Play plays. -/
import Derived.Test.YtpikjahgnnejmaaRatT
import Derived.Test.YtpikjahgnnejmaaRatO2
import Derived.Test.YtpikjahgnnejmaaRatM
namespace Go.Proofs.Ytpikjahgnnejmaa
open Go.RowKit Go.Maps
set_option linter.unusedVariables false
set_option linter.unusedSimpArgs false
/-- pairs as cells -/
def flatT (l : List (Int × Int)) : List Value := l.flatMap fun v => [.int .i64 v.1, .int .i64 v.2]
theorem flatT_snoc (l : List (Int × Int)) (x : Int × Int) : flatT (l ++ [x]) = flatT l ++ [.int .i64 x.1, .int .i64 x.2] := by simp [flatT]
def sealV (k0 : Nat) (sent : List Nat) : List Value := (List.range sent.length).map fun i => .int .i64 ((sent.getD i 0 ^^^ msgN k0 i : Nat) : Int)
theorem sealV_snoc (k0 : Nat) (sent : List Nat) (x : Nat) : sealV k0 (sent ++ [x]) = sealV k0 sent ++ [.int .i64 ((x ^^^ msgN k0 sent.length : Nat) : Int)] := by
  unfold sealV
  rw [List.length_append, List.length_singleton, List.range_succ, List.map_append, List.map_singleton]
  congr 1
  · refine List.map_congr_left fun i hi => ?_
    have := List.mem_range.1 hi
    rw [List.getD_eq_getElem?_getD, List.getD_eq_getElem?_getD, List.getElem?_append_left this]
  · rw [List.getD_eq_getElem?_getD, List.getElem?_append_right (Nat.le_refl _), Nat.sub_self]; rfl
structure PM (w : World) (k0 most ns A : Nat) (K sent : List Nat) (outs : List (Int × Int)) (v1 v2 : Value) (bp : Nat) (code n : Int) (W : World) : Prop where
  bel : Below w.heap.size w W
  tk : Tk W (w.heap.size + 1) w.heap.size k0 A most K
  snd : W.heap[w.heap.size + 1 + 1]? = some (.cells #[.int .i64 (keyN k0 ns : Nat)] 86 (0, 0))
  sld : W.ownsRow (w.heap.size + 3) 3 1 v1 sent.length (sealV k0 sent)
  out : W.ownsRow (w.heap.size + 3) 62 2 v2 outs.length (flatT outs)
  box : W.heap[bp]? = some (.cells #[.int .i64 code, .int .i64 n] 62 (0, 0))
  bl : w.heap.size + 3 ≤ bp
  n1 : v1.ownBlock ≠ some bp
  n2 : v2.ownBlock ≠ some bp
structure PI (w : World) (k0 most : Nat) (A : Nat) (K sent : List Nat) (outs : List (Int × Int)) (v1 v2 : Value) (W : World) : Prop where
  bel : Below w.heap.size w W
  tk : Tk W (w.heap.size + 1) w.heap.size k0 A most K
  snd : W.heap[w.heap.size + 1 + 1]? = some (.cells #[.int .i64 (keyN k0 sent.length : Nat)] 86 (0, 0))
  sld : W.ownsRow (w.heap.size + 3) 3 1 v1 sent.length (sealV k0 sent)
  out : W.ownsRow (w.heap.size + 3) 62 2 v2 outs.length (flatT outs)
theorem PI.siz {w W : World} {k0 most A : Nat} {K sent : List Nat} {outs : List (Int × Int)} {v1 v2 : Value} (h : PI w k0 most A K sent outs v1 v2 W) : w.heap.size + 3 ≤ W.heap.size := by
  have := (Array.getElem?_eq_some_iff.1 h.snd).1
  omega
theorem PM.siz {w W : World} {k0 most ns A : Nat} {K sent : List Nat} {outs : List (Int × Int)} {v1 v2 : Value} {bp : Nat} {code n : Int} (h : PM w k0 most ns A K sent outs v1 v2 bp code n W) : w.heap.size + 3 ≤ W.heap.size := by
  have := (Array.getElem?_eq_some_iff.1 h.snd).1
  omega
theorem own_far {W : World} {base : Nat} {e : TypeId} {size : Nat} {v : Value} {k : Nat} {xs : List Value} (h : W.ownsRow base e size v k xs) : v.ownBlock ≠ some W.heap.size ∧ v.ownBlock ≠ some (W.heap.size + 1) ∧ ∀ j, j < base → v.ownBlock ≠ some j := by
  refine ⟨fun e => ?_, fun e => ?_, fun j hj e => ?_⟩
  · have := (h.lt _ e).2; omega
  · have := (h.lt _ e).2; omega
  · have := (h.lt _ e).1; omega
theorem PM.of {w wr : World} {k0 most A : Nat} {K sent : List Nat} {outs : List (Int × Int)} {v1 v2 : Value} (h : PI w k0 most A K sent outs v1 v2 wr) (o : Obj) (code n : Int) :
    PM w k0 most sent.length A K sent outs v1 v2 (wr.heap.size + 1) code n ((wr.alloc o).alloc (.cells #[.int .i64 code, .int .i64 n] 62)) where
  bel := (h.bel.alloc h.bel.size _).alloc (by have := h.bel.size; simp; omega) _
  tk := (h.tk.below ((Below.refl _ wr).alloc (Nat.le_refl _) o)).below ((Below.refl _ _).alloc (Nat.le_refl _) _)
  snd := by
    have := h.siz
    rw [Below.heap_alloc _ _ _ (by simp; omega), Below.heap_alloc _ _ _ (by omega)]; exact h.snd
  sld := (h.sld.alloc _).alloc _
  out := (h.out.alloc _).alloc _
  box := by
    have := World.alloc_heap_new (wr.alloc o) (.cells #[.int .i64 code, .int .i64 n] 62)
    simpa only [World.size_alloc] using this
  bl := by have := h.siz; omega
  n1 := (own_far h.sld).2.1
  n2 := (own_far h.out).2.1
theorem PM.set {w W : World} {k0 most ns A : Nat} {K sent : List Nat} {outs : List (Int × Int)} {v1 v2 : Value} {bp : Nat} {code n : Int} (h : PM w k0 most ns A K sent outs v1 v2 bp code n W) (o : Nat) (c' n' : Int) (v : Value)
    (hv : (#[.int .i64 code, .int .i64 n] : Array Value).setIfInBounds o v = #[.int .i64 c', .int .i64 n']) : PM w k0 most ns A K sent outs v1 v2 bp c' n' (W.setCell ⟨bp, o, none⟩ v) where
  bel := h.bel.setCell (p := ⟨bp, o, none⟩) (by have := h.bl; simp; omega) _
  tk := h.tk.same (Below.heap_setCell _ _ _ _ (by have := h.bl; simp; omega)) (Below.heap_setCell _ _ _ _ (by have := h.bl; simp; omega))
  snd := (Below.heap_setCell _ _ _ _ (by have := h.bl; simp; omega)).trans h.snd
  sld := ownsRow_block h.sld fun g e => Below.heap_setCell _ _ _ _ (fun e2 => h.n1 (by rw [e, e2]))
  out := ownsRow_block h.out fun g e => Below.heap_setCell _ _ _ _ (fun e2 => h.n2 (by rw [e, e2]))
  box := by rw [set_blk h.box, hv]
  bl := h.bl
  n1 := h.n1
  n2 := h.n2
theorem PM.turn {w W W1 : World} {k0 most ns A : Nat} {K sent : List Nat} {outs : List (Int × Int)} {v1 v2 : Value} {bp : Nat} {code n : Int} (h : PM w k0 most ns A K sent outs v1 v2 bp code n W) (hb : Below W.heap.size W W1) :
    PM w k0 most (ns + 1) A K sent outs v1 v2 bp code n (W1.setCell ⟨w.heap.size + 1 + 1, 0, none⟩ (.int .i64 (partN (keyN k0 ns) 2 : Nat))) where
  bel := (h.bel.trans (hb.mono h.bel.size)).setCell (p := ⟨w.heap.size + 1 + 1, 0, none⟩) (by simp; omega) _
  tk := (h.tk.below hb).same (Below.heap_setCell _ _ _ _ (by simp)) (Below.heap_setCell _ _ _ _ (by simp; omega))
  snd := by
    have := h.siz
    rw [set_blk ((hb.block _ (by omega)).trans h.snd)]; rfl
  sld := ownsRow_block h.sld fun g e => (Below.heap_setCell _ _ _ _ (by have := (h.sld.lt g e).1; simp; omega)).trans (hb.block g (h.sld.lt g e).2)
  out := ownsRow_block h.out fun g e => (Below.heap_setCell _ _ _ _ (by have := (h.out.lt g e).1; simp; omega)).trans (hb.block g (h.out.lt g e).2)
  box := (Below.heap_setCell _ _ _ _ (by have := h.bl; simp; omega)).trans ((hb.block _ (Array.getElem?_eq_some_iff.1 h.box).1).trans h.box)
  bl := h.bl
  n1 := h.n1
  n2 := h.n2
theorem PM.opened {w W W' : World} {k0 most ns A A' : Nat} {K K' sent : List Nat} {outs : List (Int × Int)} {v1 v2 : Value} {bp : Nat} {code n : Int} (h : PM w k0 most ns A K sent outs v1 v2 bp code n W)
    (ht : Tk W' (w.heap.size + 1) w.heap.size k0 A' most K') (hb : But W W' (w.heap.size + 1) w.heap.size) : PM w k0 most ns A' K' sent outs v1 v2 bp code n W' where
  bel := h.bel.trans (hb.below h.bel.size (by omega) (Nat.le_refl _))
  tk := ht
  snd := (hb.block _ (by have := h.siz; omega) (by omega) (by omega)).trans h.snd
  sld := ownsRow_block h.sld fun g e => hb.block g (h.sld.lt g e).2 (by have := (h.sld.lt g e).1; omega) (by have := (h.sld.lt g e).1; omega)
  out := ownsRow_block h.out fun g e => hb.block g (h.out.lt g e).2 (by have := (h.out.lt g e).1; omega) (by have := (h.out.lt g e).1; omega)
  box := (hb.block _ (Array.getElem?_eq_some_iff.1 h.box).1 (by have := h.bl; omega) (by have := h.bl; omega)).trans h.box
  bl := h.bl
  n1 := h.n1
  n2 := h.n2
theorem PM.drew {w W : World} {k0 most ns A : Nat} {K sent : List Nat} {outs : List (Int × Int)} {v1 v2 : Value} {bp : Nat} {code n : Int} (h : PM w k0 most ns A K sent outs v1 v2 bp code n W) : PM w k0 most ns A K sent outs v1 v2 bp code n W.drew :=
  ⟨h.bel.drew, h.tk.same rfl rfl, h.snd, h.sld, h.out, h.box, h.bl, h.n1, h.n2⟩
theorem rows_two {W : World} {b1 b2 : Nat} {e1 e2 : TypeId} {s1 s2 : Nat} {v1 v2 : Value} {k1 k2 : Nat} {x1 x2 : List Value} (h1 : W.ownsRow b1 e1 s1 v1 k1 x1) (h2 : W.ownsRow b2 e2 s2 v2 k2 x2) (hne : e1 ≠ e2) {g : Nat} (hg : v1.ownBlock = some g) : v2.ownBlock ≠ some g := fun hg2 => by
  rcases h1.2 with ⟨rfl, _⟩ | ⟨g1, c1, cur1, rfl, _, q1, _⟩
  · simp [Value.ownBlock] at hg
  · rcases h2.2 with ⟨rfl, _⟩ | ⟨g2, c2, cur2, rfl, _, q2, _⟩
    · simp [Value.ownBlock] at hg2
    · have e1' : g1 = g := by simpa [Value.ownBlock] using hg
      have e2' : g2 = g := by simpa [Value.ownBlock] using hg2
      rw [e1'] at q1
      rw [e2', q1] at q2
      cases q2; exact hne rfl
/-- a number more is sealed -/
theorem PM.sealed {w W w3 : World} {k0 most ns A : Nat} {K sent : List Nat} {outs : List (Int × Int)} {v1 v2 v' : Value} {bp : Nat} {code n : Int} {o : Obj} {x : Nat} (h : PM w k0 most ns A K sent outs v1 v2 bp code n W)
    (hown : w3.ownsRow (w.heap.size + 3) 3 1 v' (sent.length + 1) (sealV k0 sent ++ [.int .i64 ((x ^^^ msgN k0 sent.length : Nat) : Int)])) (hg : (W.alloc o).grownBy w3 v1.ownBlock) (hnew : v'.ownBlock = v1.ownBlock ∨ ∃ b, v'.ownBlock = some b ∧ W.heap.size ≤ b) :
    PM w k0 most ns A K (sent ++ [x]) outs v' v2 bp code n w3 := by
  have hs := h.siz
  have hbp := (Array.getElem?_eq_some_iff.1 h.box).1
  have low : ∀ j, j < w.heap.size + 3 → w3.heap[j]? = W.heap[j]? := fun j hj => by
    rw [hg.block j (by simp; omega) (fun e => (own_far h.sld).2.2 j hj e.symm), Below.heap_alloc _ _ _ (by omega)]
  refine ⟨(h.bel.alloc h.bel.size o).grown hg (by have := h.bel.size; simp; omega) (fun k e => by have := (h.sld.lt k e).1; omega), h.tk.same (low _ (by omega)) (low _ (by omega)), (low _ (by omega)).trans h.snd, ?_, ?_, ?_, h.bl, ?_, h.n2⟩
  · rw [sealV_snoc, List.length_append, List.length_singleton]; exact hown
  · refine ownsRow_block h.out fun g e => ?_
    have hl := (h.out.lt g e).2
    rw [hg.block g (by simp; omega) (fun e2 => rows_two h.sld h.out (by decide) e2.symm e), Below.heap_alloc _ _ _ hl]
  · rw [hg.block bp (by simp; omega) (fun e => h.n1 e.symm), Below.heap_alloc _ _ _ hbp]; exact h.box
  · rcases hnew with e | ⟨b, e, hb⟩
    · rw [e]; exact h.n1
    · rw [e]; intro e2; have := Option.some.inj e2; omega
/-- the round's end -/
theorem PM.finish {w W w3 : World} {k0 most A : Nat} {K sent : List Nat} {outs : List (Int × Int)} {v1 v2 v' : Value} {bp : Nat} {code n : Int} {o : Obj} (h : PM w k0 most sent.length A K sent outs v1 v2 bp code n W)
    (hown : w3.ownsRow (w.heap.size + 3) 62 2 v' (outs.length + 1) (flatT outs ++ [.int .i64 code, .int .i64 n])) (hg : (W.alloc o).grownBy w3 v2.ownBlock) :
    PI w k0 most A K sent (outs ++ [(code, n)]) v1 v' w3 := by
  have hs := h.siz
  have low : ∀ j, j < w.heap.size + 3 → w3.heap[j]? = W.heap[j]? := fun j hj => by
    rw [hg.block j (by simp; omega) (fun e => (own_far h.out).2.2 j hj e.symm), Below.heap_alloc _ _ _ (by omega)]
  refine ⟨(h.bel.alloc h.bel.size o).grown hg (by have := h.bel.size; simp; omega) (fun k e => by have := (h.out.lt k e).1; omega), h.tk.same (low _ (by omega)) (low _ (by omega)), (low _ (by omega)).trans h.snd, ?_, ?_⟩
  · refine ownsRow_block h.sld fun g e => ?_
    have hl := (h.sld.lt g e).2
    rw [hg.block g (by simp; omega) (fun e2 => rows_two h.out h.sld (by decide) e2.symm e), Below.heap_alloc _ _ _ hl]
  · rw [flatT_snoc, List.length_append, List.length_singleton]; exact hown
end Go.Proofs.Ytpikjahgnnejmaa

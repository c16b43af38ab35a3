/- Merged: XRCg XRCg2 XRel1 XBkI XHoldI XRelW. -/
import Derived.Test.YtkodhpjmmiapaaaRF
import Derived.Test.YtkodhpjmmiapaaaRelM
import Derived.Test.YtkodhpjmmiapaaaSqB
import Derived.OrdersIn
import Derived.OwnWalkIn
import Derived.Test.YtkodhpjmmiapaaaRd2
import Derived.Test.YtkodhpjmmiapaaaMk
/- A range over a function whose iterator only reads (slices.Backward): the contract of such an iterator, and the law of the statement that ranges over it. -/

namespace Go.Proofs.Ytkodhpjmmiapaaa
open Go.RowKit
set_option linter.unusedVariables false
variable {P : Program}
/-- THE ITERATOR's CONTRACT: it hands over the elements of L one by one till a round says no more; it reads what R tells of, and writes nothing. -/
def IterM {α : Type} (P : Program) (gf : FuncId) (caps : Array Value) (encs : α → Array Value) (L : List α) (R : World → Prop) : Prop :=
  ∀ (n l : Nat) (J Jx : List α → World → Prop) (W : World), (∀ pre W, J pre W → R W) → (∀ pre W, J pre W → J pre W.drew) →
    (∀ pre x W1, J pre W1 → pre ++ [x] <+: L → YieldAt Fence.wide (n - 1) P l (encs x) W1 fun e W' =>
      (e = .returned (.bool true) ∧ J (pre ++ [x]) W') ∨ (e = .returned (.bool false) ∧ Jx (pre ++ [x]) W')) →
    J [] W →
    CallsIn Fence.wide n P gf (#[.func (.yield l) #[] #[]] ++ caps) W fun e W' => (∃ v, e = .returned v) ∧ (J L W' ∨ ∃ pre, pre <+: L ∧ Jx pre W')
/-- How the body of a round may be left. -/
def genPostM {α : Type} (I Ix : List α → World → Prop) (xs : List α) (W : World) : Exit → Act → World → Prop
  | .normal, _, W' => KeepsOthers W W' ∧ I xs W'
  | .ret, _, W' => KeepsOthers W W' ∧ Ix xs W'
  | _, _, _ => False
theorem wp_range_caps {α : Type} {n : Nat} {g : Operand} {ps : Array Tmp} {assign body : Code} {Q : Exit → Act → World → Prop} {a : Act} {w : World} {gf : FuncId} {caps : Array Value} {encs : α → Array Value} {L : List α} {R : World → Prop}
    (hg : a.eval g = .func (.func gf) #[] caps) (eg : ∀ args w, (callFunc gf args).run P w = .ok (.enter gf args) w)
    (hit : IterM P gf caps encs L R) (hps : ∀ x, (encs x).size = ps.size)
    (I Ix : List α → World → Prop) (sal : ∀ pre W o, I pre W → I pre (W.alloc o)) (spu : ∀ pre W k o o', w.heap.size ≤ k → W.heap[k]? = some o' → o'.isCells = false → I pre W → I pre (W.putObj k o))
    (hstx : ∀ pre W k o o', w.heap.size ≤ k → W.heap[k]? = some o' → o'.isCells = false → Ix pre W → Ix pre (W.putObj k o)) (hR : ∀ pre W, I pre W → R W) (sdr : ∀ pre W, I pre W → I pre W.drew) (h0 : I [] w) (a₁ : α → Act)
    (hassign : ∀ (l : Nat) (x : α) (W : World) (K : Act → World → Prop), K (a₁ x) W →
      assign.wpIn (Fence.wide.inRound l) (n - 1 - 1) P (Exit.then K (fun _ _ _ => False)) { tmps := (ps.zip (encs x)).foldl (fun t (p, v) => t.setIfInBounds p v) a.tmps, defers := [] } W)
    (hbody : ∀ (l : Nat) (pre : List α) (x : α) (W : World), I pre W → pre ++ [x] <+: L → body.wpIn (Fence.wide.inRound l) (n - 1 - 1) P (genPostM I Ix (pre ++ [x]) W) (a₁ x) W)
    (hdone : ∀ (D : Nat) (W : World), I L W → W.heap[D]? = some (.deferred (some [])) → w.heap.size ≤ D → Q .normal { a with defers := { target := .collected D, args := #[] } :: a.defers } W)
    (hstop : ∀ (D : Nat) (pre : List α) (W : World), pre <+: L → Ix pre W → W.heap[D]? = some (.deferred (some [])) → w.heap.size ≤ D → Code.ret.wpIn Fence.wide n P Q { a with defers := { target := .collected D, args := #[] } :: a.defers } W) :
    (Code.rangeFunc g ps assign body).wpIn Fence.wide n P Q a w := by
  refine wpIn_rangeFunc ?_
  intro fn hfn
  obtain ⟨rec, hrec⟩ : ∃ rec : LoopState → Option Code → Loop, rec = fun st pe => { state := st, pending := pe, fn, tmps := a.tmps, params := ps, assign, body, defers := w.heap.size } := ⟨_, rfl⟩
  obtain ⟨W1, hW1⟩ : ∃ W1, (w.alloc (.deferred (some []))).alloc (.loop (rec .ready none)) = W1 := ⟨_, rfl⟩
  have hL1 : W1.heap[w.heap.size + 1]? = some (.loop (rec .ready none)) := by
    rw [← hW1]; have := World.alloc_heap_new (w.alloc (.deferred (some []))) (.loop (rec .ready none)); rwa [World.size_alloc] at this
  have hK1 : W1.heap[w.heap.size]? = some (.deferred (some [])) := by
    rw [← hW1]; exact (Below.heap_alloc _ _ _ (by simp)).trans (World.alloc_heap_new w _)
  have hI1 : I [] W1 := by rw [← hW1]; exact sal _ _ _ (sal _ _ _ h0)
  refine ⟨w.heap.size + 1, [{ target := .collected w.heap.size, args := #[] }], W1, { target := .fn (.func gf) caps, args := #[.func (.yield (w.heap.size + 1)) #[] #[]] }, W1, gf,
    (#[.func (.yield (w.heap.size + 1)) #[] #[]] ++ caps), W1, ?_, ?_, ?_, ?_, (fun h => by cases h), ?_⟩
  · rw [← hW1, hrec]; exact run_enterLoop_outer _ _ _ _ _
  · simp only [resolve, hg]
    simp [go_sem]
  · intro f' _; trivial
  · simp [invoke, go_sem, eg]
  · refine (hit (n - 1) (w.heap.size + 1)
      (fun pre W => I pre W ∧ W.heap[w.heap.size + 1]? = some (.loop (rec .ready none)) ∧ W.heap[w.heap.size]? = some (.deferred (some [])))
      (fun pre W => Ix pre W ∧ W.heap[w.heap.size + 1]? = some (.loop (rec .done (some .ret))) ∧ W.heap[w.heap.size]? = some (.deferred (some [])))
      W1 (fun pre W h => hR _ _ h.1) (fun pre W h => ⟨sdr _ _ h.1, h.2.1, h.2.2⟩) ?_ ⟨hI1, hL1, hK1⟩).mono ?_
    · rintro pre x W ⟨hi, hl, hk⟩ hpre
      have hy := run_yield (P := P) (args := encs x) hl (by rw [hrec]; simp [hps])
      rw [hrec] at hy
      refine ⟨fn, _, assign, body, hy, roundIn_of_wpIn hfn (hassign _ x W _ ⟨_, run_beginRound hl (by rw [hrec]), ?_⟩)⟩
      have hlt : w.heap.size + 1 < W.heap.size := (Array.getElem?_eq_some_iff.1 hl).1
      have hl2 : (W.putObj (w.heap.size + 1) (.loop { rec .ready none with state := .busy })).heap[w.heap.size + 1]? = some (.loop { rec .ready none with state := .busy }) := World.putObj_heap_same hlt
      have hk2 : (W.putObj (w.heap.size + 1) (.loop { rec .ready none with state := .busy })).heap[w.heap.size]? = some (.deferred (some [])) := (World.putObj_heap_other (by omega)).trans hk
      refine wpIn_mono (hbody _ pre x _ (spu _ _ _ _ _ (by omega) hl rfl hi) hpre) ?_
      have fin : ∀ (jump : Option Code) (W3 : World), KeepsOthers (W.putObj (w.heap.size + 1) (.loop { rec .ready none with state := .busy })) W3 →
          (Instr.endRound (w.heap.size + 1) jump).run P W3 = .ok (.bool jump.isNone) (W3.putObj (w.heap.size + 1) (.loop (rec (if jump.isNone then .ready else .done) jump))) ∧
          (W3.putObj (w.heap.size + 1) (.loop (rec (if jump.isNone then .ready else .done) jump))).heap[w.heap.size + 1]? = some (.loop (rec (if jump.isNone then .ready else .done) jump)) ∧
          (W3.putObj (w.heap.size + 1) (.loop (rec (if jump.isNone then .ready else .done) jump))).heap[w.heap.size]? = some (.deferred (some [])) := fun jump W3 hk3 => by
        have hl3 := hk3.same _ _ hl2 rfl
        have := run_endRound (P := P) jump hl3
        rw [hrec] at this ⊢
        exact ⟨this, World.putObj_heap_same (Array.getElem?_eq_some_iff.1 hl3).1, (World.putObj_heap_other (by omega)).trans (hk3.same _ _ hk2 rfl)⟩
      rintro e a3 W3 hp
      cases e with
      | normal =>
        obtain ⟨hk3, hi3⟩ := hp
        obtain ⟨hr, hl4, hk4⟩ := fin none W3 hk3
        exact ⟨_, _, hr, .inl ⟨rfl, ⟨spu _ _ _ _ _ (by omega) (hk3.same _ _ hl2 rfl) rfl hi3, hl4, hk4⟩⟩⟩
      | ret =>
        obtain ⟨hk3, hi3⟩ := hp
        obtain ⟨hr, hl4, hk4⟩ := fin (some .ret) W3 hk3
        exact ⟨_, _, hr, .inr ⟨rfl, hstx _ _ _ _ _ (by omega) (hk3.same _ _ hl2 rfl) rfl hi3, hl4, hk4⟩⟩
      | exit id => exact hp.elim
      | goto t => exact hp.elim
      | panic ch => exact hp.elim
      | outgrown => exact hp.elim
    · rintro e W2 ⟨⟨v, rfl⟩, (⟨hi, hl, hk⟩ | ⟨pre, hpre, hi, hl, hk⟩)⟩
      · exact ⟨none, _, by have := run_endLoop (P := P) hl (by rw [hrec]; simp); rw [hrec] at this; exact this, hdone _ _ (spu _ _ _ _ _ (by omega) hl rfl hi) ((World.putObj_heap_other (by omega)).trans hk) (Nat.le_refl _)⟩
      · exact ⟨some .ret, _, by have := run_endLoop (P := P) hl (by rw [hrec]; simp); rw [hrec] at this; exact this, hstop _ pre _ hpre (hstx _ _ _ _ _ (by omega) hl rfl hi) ((World.putObj_heap_other (by omega)).trans hk) (Nat.le_refl _)⟩
end Go.Proofs.Ytkodhpjmmiapaaa

/- As wp_range_caps, the round's act said by the walk itself. -/
namespace Go.Proofs.Ytkodhpjmmiapaaa
open Go.RowKit
set_option linter.unusedVariables false
variable {P : Program}
theorem wp_range_capsE {α : Type} {n : Nat} {g : Operand} {ps : Array Tmp} {assign body : Code} {Q : Exit → Act → World → Prop} {a : Act} {w : World} {gf : FuncId} {caps : Array Value} {encs : α → Array Value} {L : List α} {R : World → Prop}
    (hg : a.eval g = .func (.func gf) #[] caps) (eg : ∀ args w, (callFunc gf args).run P w = .ok (.enter gf args) w)
    (hit : IterM P gf caps encs L R) (hps : ∀ x, (encs x).size = ps.size)
    (I Ix : List α → World → Prop) (sal : ∀ pre W o, I pre W → I pre (W.alloc o)) (spu : ∀ pre W k o o', w.heap.size ≤ k → W.heap[k]? = some o' → o'.isCells = false → I pre W → I pre (W.putObj k o))
    (hstx : ∀ pre W k o o', w.heap.size ≤ k → W.heap[k]? = some o' → o'.isCells = false → Ix pre W → Ix pre (W.putObj k o)) (hR : ∀ pre W, I pre W → R W) (sdr : ∀ pre W, I pre W → I pre W.drew) (h0 : I [] w)
    (hround : ∀ (l : Nat) (pre : List α) (x : α) (W : World), I pre W → pre ++ [x] <+: L → ∃ a₁ : Act,
      (∀ (W' : World) (K : Act → World → Prop), K a₁ W' → assign.wpIn (Fence.wide.inRound l) (n - 1 - 1) P (Exit.then K (fun _ _ _ => False)) { tmps := (ps.zip (encs x)).foldl (fun t (p, v) => t.setIfInBounds p v) a.tmps, defers := [] } W') ∧
      body.wpIn (Fence.wide.inRound l) (n - 1 - 1) P (genPostM I Ix (pre ++ [x]) W) a₁ W)
    (hdone : ∀ (D : Nat) (W : World), I L W → W.heap[D]? = some (.deferred (some [])) → w.heap.size ≤ D → Q .normal { a with defers := { target := .collected D, args := #[] } :: a.defers } W)
    (hstop : ∀ (D : Nat) (pre : List α) (W : World), pre <+: L → Ix pre W → W.heap[D]? = some (.deferred (some [])) → w.heap.size ≤ D → Code.ret.wpIn Fence.wide n P Q { a with defers := { target := .collected D, args := #[] } :: a.defers } W) :
    (Code.rangeFunc g ps assign body).wpIn Fence.wide n P Q a w := by
  refine wpIn_rangeFunc ?_
  intro fn hfn
  obtain ⟨rec, hrec⟩ : ∃ rec : LoopState → Option Code → Loop, rec = fun st pe => { state := st, pending := pe, fn, tmps := a.tmps, params := ps, assign, body, defers := w.heap.size } := ⟨_, rfl⟩
  obtain ⟨W1, hW1⟩ : ∃ W1, (w.alloc (.deferred (some []))).alloc (.loop (rec .ready none)) = W1 := ⟨_, rfl⟩
  have hL1 : W1.heap[w.heap.size + 1]? = some (.loop (rec .ready none)) := by
    rw [← hW1]; have := World.alloc_heap_new (w.alloc (.deferred (some []))) (.loop (rec .ready none)); rwa [World.size_alloc] at this
  have hK1 : W1.heap[w.heap.size]? = some (.deferred (some [])) := by
    rw [← hW1]; exact (Below.heap_alloc _ _ _ (by simp)).trans (World.alloc_heap_new w _)
  have hI1 : I [] W1 := by rw [← hW1]; exact sal _ _ _ (sal _ _ _ h0)
  refine ⟨w.heap.size + 1, [{ target := .collected w.heap.size, args := #[] }], W1, { target := .fn (.func gf) caps, args := #[.func (.yield (w.heap.size + 1)) #[] #[]] }, W1, gf,
    (#[.func (.yield (w.heap.size + 1)) #[] #[]] ++ caps), W1, ?_, ?_, ?_, ?_, (fun h => by cases h), ?_⟩
  · rw [← hW1, hrec]; exact run_enterLoop_outer _ _ _ _ _
  · simp only [resolve, hg]
    simp [go_sem]
  · intro f' _; trivial
  · simp [invoke, go_sem, eg]
  · refine (hit (n - 1) (w.heap.size + 1)
      (fun pre W => I pre W ∧ W.heap[w.heap.size + 1]? = some (.loop (rec .ready none)) ∧ W.heap[w.heap.size]? = some (.deferred (some [])))
      (fun pre W => Ix pre W ∧ W.heap[w.heap.size + 1]? = some (.loop (rec .done (some .ret))) ∧ W.heap[w.heap.size]? = some (.deferred (some [])))
      W1 (fun pre W h => hR _ _ h.1) (fun pre W h => ⟨sdr _ _ h.1, h.2.1, h.2.2⟩) ?_ ⟨hI1, hL1, hK1⟩).mono ?_
    · rintro pre x W ⟨hi, hl, hk⟩ hpre
      have hy := run_yield (P := P) (args := encs x) hl (by rw [hrec]; simp [hps])
      rw [hrec] at hy
      obtain ⟨a₁, hassign, hbody⟩ := hround (w.heap.size + 1) pre x _ (spu _ _ _ (.loop { rec .ready none with state := .busy }) _ (by omega) hl rfl hi) hpre
      refine ⟨fn, _, assign, body, hy, roundIn_of_wpIn hfn (hassign W _ ⟨_, run_beginRound hl (by rw [hrec]), ?_⟩)⟩
      have hlt : w.heap.size + 1 < W.heap.size := (Array.getElem?_eq_some_iff.1 hl).1
      have hl2 : (W.putObj (w.heap.size + 1) (.loop { rec .ready none with state := .busy })).heap[w.heap.size + 1]? = some (.loop { rec .ready none with state := .busy }) := World.putObj_heap_same hlt
      have hk2 : (W.putObj (w.heap.size + 1) (.loop { rec .ready none with state := .busy })).heap[w.heap.size]? = some (.deferred (some [])) := (World.putObj_heap_other (by omega)).trans hk
      refine wpIn_mono hbody ?_
      have fin : ∀ (jump : Option Code) (W3 : World), KeepsOthers (W.putObj (w.heap.size + 1) (.loop { rec .ready none with state := .busy })) W3 →
          (Instr.endRound (w.heap.size + 1) jump).run P W3 = .ok (.bool jump.isNone) (W3.putObj (w.heap.size + 1) (.loop (rec (if jump.isNone then .ready else .done) jump))) ∧
          (W3.putObj (w.heap.size + 1) (.loop (rec (if jump.isNone then .ready else .done) jump))).heap[w.heap.size + 1]? = some (.loop (rec (if jump.isNone then .ready else .done) jump)) ∧
          (W3.putObj (w.heap.size + 1) (.loop (rec (if jump.isNone then .ready else .done) jump))).heap[w.heap.size]? = some (.deferred (some [])) := fun jump W3 hk3 => by
        have hl3 := hk3.same _ _ hl2 rfl
        have := run_endRound (P := P) jump hl3
        rw [hrec] at this ⊢
        exact ⟨this, World.putObj_heap_same (Array.getElem?_eq_some_iff.1 hl3).1, (World.putObj_heap_other (by omega)).trans (hk3.same _ _ hk2 rfl)⟩
      rintro e a3 W3 hp
      cases e with
      | normal =>
        obtain ⟨hk3, hi3⟩ := hp
        obtain ⟨hr, hl4, hk4⟩ := fin none W3 hk3
        exact ⟨_, _, hr, .inl ⟨rfl, ⟨spu _ _ _ _ _ (by omega) (hk3.same _ _ hl2 rfl) rfl hi3, hl4, hk4⟩⟩⟩
      | ret =>
        obtain ⟨hk3, hi3⟩ := hp
        obtain ⟨hr, hl4, hk4⟩ := fin (some .ret) W3 hk3
        exact ⟨_, _, hr, .inr ⟨rfl, hstx _ _ _ _ _ (by omega) (hk3.same _ _ hl2 rfl) rfl hi3, hl4, hk4⟩⟩
      | exit id => exact hp.elim
      | goto t => exact hp.elim
      | panic ch => exact hp.elim
      | outgrown => exact hp.elim
    · rintro e W2 ⟨⟨v, rfl⟩, (⟨hi, hl, hk⟩ | ⟨pre, hpre, hi, hl, hk⟩)⟩
      · exact ⟨none, _, by have := run_endLoop (P := P) hl (by rw [hrec]; simp); rw [hrec] at this; exact this, hdone _ _ (spu _ _ _ _ _ (by omega) hl rfl hi) ((World.putObj_heap_other (by omega)).trans hk) (Nat.le_refl _)⟩
      · exact ⟨some .ret, _, by have := run_endLoop (P := P) hl (by rw [hrec]; simp); rw [hrec] at this; exact this, hstop _ pre _ hpre (hstx _ _ _ _ _ (by omega) hl rfl hi) ((World.putObj_heap_other (by omega)).trans hk) (Nat.le_refl _)⟩
end Go.Proofs.Ytkodhpjmmiapaaa

/- (*relay.way).wrong, (*relay.sent).layer, (*relay.sent).pass. -/
namespace Go.Proofs.Ytkodhpjmmiapaaa
open Go.RowKit
set_option linter.unusedVariables false
set_option linter.unusedSimpArgs false
theorem alloc_below (w : World) (o : Obj) : Below w.heap.size w (w.alloc o) := (Below.refl _ _).alloc (Nat.le_refl _) _
theorem keeps_below {W W' : World} (hb : Below W.heap.size W W') : KeepsOthers W W' := ⟨hb.size, fun k o hk _ => (hb.block k (Array.getElem?_eq_some_iff.1 hk).1).trans hk⟩
/-- a hop as a value -/
def hopC (h : Hp) (a : Option Addr) (c : Nat) : Array Value := #[.int .i64 h.kind, .int .i64 h.k, .int .i64 h.l, .slice a h.body.length c, .int .i64 h.link, .int .i64 h.at', .int .u8 (h.turn : Int)]
set_option maxRecDepth 20000 in
set_option maxHeartbeats 3200000 in
theorem way_wrong (wb n kc : Nat) (ka : Option Addr) (h : Hp) (a : Option Addr) (c : Nat) (W : World) (h5 : W.cell? ⟨wb, 5, none⟩ = some (.slice ka n kc)) :
    Calls Try.prog 24 #[.pointer (some ⟨wb, 0, none⟩), .agg (hopC h a c)] W fun e w' => e = .returned (.int .i64 (wrongF n h)) ∧ Below W.heap.size W w' := by
  obtain ⟨kind, k, l, body, link, at', turn⟩ := h
  obtain ⟨L, hL⟩ : ∃ L, body.length = L := ⟨_, rfl⟩
  have hW : wrongF n ⟨kind, k, l, body, link, at', turn⟩ = if n = 0 then 7 else if 14 < L then 1 else if turn ≠ 0 ∧ (link < 0 ∨ (n : Int) ≤ link ∨ at' < 0 ∨ 17 ≤ at') then 3 else 0 := by
    unfold wrongF
    simp only
    rw [hL]
  rw [hW]
  unfold hopC
  simp only
  rw [hL]
  have hlt : wb < W.heap.size := World.block_lt_of_cell? _ _ h5
  have h5k := kept (alloc_below W (.cells #[.int .i64 kind, .int .i64 k, .int .i64 l, .slice a L c, .int .i64 link, .int .i64 at', .int .u8 (turn : Int)] 33)) h5 hlt
  clear hW hL
  have key : (n = 0 ∨ (¬ n = 0 ∧ 14 < L) ∨ (¬ n = 0 ∧ ¬ 14 < L ∧ turn = 0) ∨ (¬ n = 0 ∧ ¬ 14 < L ∧ ¬ turn = 0 ∧ link < 0) ∨ (¬ n = 0 ∧ ¬ 14 < L ∧ ¬ turn = 0 ∧ ¬ link < 0 ∧ (n : Int) ≤ link) ∨ (¬ n = 0 ∧ ¬ 14 < L ∧ ¬ turn = 0 ∧ ¬ link < 0 ∧ ¬ (n : Int) ≤ link ∧ at' < 0) ∨ (¬ n = 0 ∧ ¬ 14 < L ∧ ¬ turn = 0 ∧ ¬ link < 0 ∧ ¬ (n : Int) ≤ link ∧ ¬ at' < 0 ∧ 17 ≤ at') ∨ (¬ n = 0 ∧ ¬ 14 < L ∧ ¬ turn = 0 ∧ ¬ link < 0 ∧ ¬ (n : Int) ≤ link ∧ ¬ at' < 0 ∧ ¬ 17 ≤ at')) := by omega
  rcases key with h1 | ⟨h1, h2⟩ | ⟨h1, h2, h3⟩ | ⟨h1, h2, h3, h4⟩ | ⟨h1, h2, h3, h4, h5'⟩ | ⟨h1, h2, h3, h4, h5', h6⟩ | ⟨h1, h2, h3, h4, h5', h6, h7⟩ | ⟨h1, h2, h3, h4, h5', h6, h7⟩
  · rw [if_pos h1]
    have e1 : ((n : Int) == 0) = true := by simp; omega
    have hz : (n : Int) = 0 := by omega
    clear h1 hz
    go_enter Try.func24, Try.ntmps24
    go_wp2
    go_ret
    exact ⟨rfl, alloc_below _ _⟩
  · rw [if_neg h1, if_pos h2]
    have e1 : ((n : Int) == 0) = false := by simp; omega
    have e2 : (14 : Int) < (L : Int) := by omega
    clear h1 h2
    go_enter Try.func24, Try.ntmps24
    go_wp2
    go_ret
    exact ⟨rfl, alloc_below _ _⟩
  all_goals
    rw [if_neg h1, if_neg h2]
    first | rw [if_neg (by omega)] | rw [if_pos (by omega)]
    have e1 : ((n : Int) == 0) = false := by simp; omega
    have e2 : ¬ (14 : Int) < (L : Int) := by omega
    first
      | have e3 : ((turn : Int) != 0) = false := by simp; omega
      | have e3 : ((turn : Int) != 0) = true := by simp; omega
    first
      | have e4 : ((turn : Int) == 0) = true := by simp; omega
      | have e4 : ((turn : Int) == 0) = false := by simp; omega
    clear h1 h2 h3
    go_enter Try.func24, Try.ntmps24
    go_wp2
    go_ret
    exact ⟨rfl, alloc_below _ _⟩
/-- what is on its way: the bytes in a row of the call's own from block B on -/
structure SentAt (W : World) (sb B : Nat) (xs : List Nat) (cnt : Nat) : Prop where
  c0 : ∃ g c, W.cell? ⟨sb, 0, none⟩ = some (.slice (some ⟨g, 0, none⟩) 17 c) ∧ W.ownsRow B 5 1 (.slice (some ⟨g, 0, none⟩) 17 c) 17 (byV xs)
  c1 : W.cell? ⟨sb, 1, none⟩ = some (.int .i64 (cnt : Int))
  f0 : W.frozen? ⟨sb, 0, none⟩ = false
  cl : Cl xs
/-- every old block but one is as it was -/
structure Butk (sb : Nat) (W W' : World) : Prop where
  bel : Below sb W W'
  size : W.heap.size ≤ W'.heap.size
  block : ∀ k, k < W.heap.size → k ≠ sb → W'.heap[k]? = W.heap[k]?
  ko : KeepsOthers W W'
theorem Butk.refl (sb : Nat) (W : World) : Butk sb W W := ⟨Below.refl _ _, Nat.le_refl _, fun _ _ _ => rfl, KeepsOthers.refl _⟩
theorem Butk.trans {sb : Nat} {a b c : World} (h : Butk sb a b) (k : Butk sb b c) : Butk sb a c :=
  ⟨h.bel.trans k.bel, Nat.le_trans h.size k.size, fun j hj hn => (k.block j (Nat.lt_of_lt_of_le hj h.size) hn).trans (h.block j hj hn), h.ko.trans k.ko⟩
theorem Butk.below {sb B : Nat} {a b c : World} (h : Butk sb a b) (k : Below B b c) (hB : a.heap.size ≤ B) (hs : sb < a.heap.size) (ko : KeepsOthers b c) : Butk sb a c :=
  ⟨h.bel.trans (k.mono (by omega)), Nat.le_trans h.size k.size, fun j hj hn => (k.block j (by omega)).trans (h.block j hj hn), h.ko.trans ko⟩
theorem SentAt.lt {W : World} {sb B cnt : Nat} {xs : List Nat} (h : SentAt W sb B xs cnt) : sb < W.heap.size := World.block_lt_of_cell? _ _ h.c1
theorem SentAt.lower {W : World} {sb B B' cnt : Nat} {xs : List Nat} (h : SentAt W sb B xs cnt) (hB : B' ≤ B) : SentAt W sb B' xs cnt := by
  obtain ⟨g, c, q0, q1⟩ := h.c0
  exact ⟨⟨g, c, q0, own_lower q1 hB⟩, h.c1, h.f0, h.cl⟩
theorem SentAt.keep {W W' : World} {sb B cnt : Nat} {xs : List Nat} (h : SentAt W sb B xs cnt) (hb : Below W.heap.size W W') : SentAt W' sb B xs cnt := by
  have hlt := h.lt
  obtain ⟨g, c, q0, q1⟩ := h.c0
  exact ⟨⟨g, c, kept hb q0 hlt, own_keep q1 hb⟩, kept hb h.c1 hlt, (hb.frozen (p := ⟨sb, 0, none⟩) hlt).trans h.f0, h.cl⟩
theorem sset_other {W : World} {xb i j : Nat} {u : Value} (h : i ≠ j) : (W.setCell ⟨xb, i, none⟩ u).cell? ⟨xb, j, none⟩ = W.cell? ⟨xb, j, none⟩ := by
  have hne : (⟨xb, i, none⟩ : Addr) ≠ ⟨xb, j, none⟩ := fun e => h (by injection e)
  rw [World.cell?_setCell_other (a := (⟨xb, i, none⟩ : Addr)) (b := (⟨xb, j, none⟩ : Addr)) (h := hne)]
theorem sown_far {W : World} {base n s : Nat} {e : TypeId} {v : Value} {xs : List Value} (h : W.ownsRow base e s v n xs) {b o : Nat} (hb : b < base) (u : Value) : (W.setCell ⟨b, o, none⟩ u).ownsRow base e s v n xs := by
  refine ⟨h.1, ?_⟩
  rcases h.2 with h | ⟨g, cap, cur, rfl, h2, h3, h4⟩
  · exact .inl h
  · exact .inr ⟨g, cap, cur, rfl, h2, (Below.heap_setCell _ _ _ _ (show g ≠ b by omega)).trans h3, h4⟩
set_option maxRecDepth 20000 in
set_option maxHeartbeats 3200000 in
theorem sent_layer (k sb B cnt : Nat) (xs : List Nat) (W : World) (h : SentAt W sb B xs cnt) (hk : k < 65536) (hn : cnt ≤ 2147483648) :
    Calls Try.prog 27 #[.pointer (some ⟨sb, 0, none⟩), .int .i64 k] W fun e w' => e = .returned (.tuple #[]) ∧ SentAt w' sb W.heap.size (layN k cnt xs) cnt ∧ Butk sb W w' := by
  have zsb := h.lt
  obtain ⟨g, c, c0, hown⟩ := h.c0
  have c1 := h.c1
  have f0 := h.f0
  have HCl := Lib.hid (h.cl.lay k cnt)
  have hrb : RowB W (some ⟨g, 0, none⟩) c xs := by
    have hl : (17 : Nat) = xs.length := h.cl.1.symm
    have := hown
    rw [hl] at this
    obtain ⟨a', c', he, hr, _⟩ := own_rowB this
    injection he with e1 e2 e3
    subst e1 e3
    exact hr
  have HRB := Lib.hid hrb
  have hly := fun w' (h' : RowB w' (some ⟨g, 0, none⟩) c xs) => cell_Layer k cnt (some ⟨g, 0, none⟩) c xs w' hk hn h' h.cl.1 h.cl.2
  rw [h.cl.1] at hly
  have HLy := Lib.hid hly
  clear h hown hrb hly
  go_enter Try.func27, Try.ntmps27
  go_wp2_with fail
  refine wp_region_D (S := (fun W' : World => Below W.heap.size W W')) (fun j => j != 16) (by kernel_rfl) (Below.refl _ _).drew (fun hHeld => ?_)
  simp only [List.size_toArray, List.length_cons, List.length_nil, Nat.reduceAdd, Array.replicate_succ, Array.replicate_zero, List.push_toArray, List.append_toArray, List.nil_append, List.cons_append]
  refine WD_free (i := 0) (oi := _) (v := ?_) rfl (by kernel_rfl) (fun _ _ _ h => h) (Or.inl ⟨by rfl, ?_⟩) ?_
  rotate_left
  · (intro W hS; (try dsimp only at hS); clear hS; go_simp; with_reducible rfl)
  try simp only [Act.put, List.getElem_toArray, List.getElem_cons_succ, List.getElem_cons_zero, List.setIfInBounds_toArray, List.set_cons_zero, List.set_cons_succ]
  refine WD_free (i := 1) (oi := _) (v := ?_) rfl (by kernel_rfl) (fun _ _ _ h => h) (Or.inl ⟨by rfl, ?_⟩) ?_
  rotate_left
  · (intro W hS; (try dsimp only at hS); clear hS; go_simp; with_reducible rfl)
  try simp only [Act.put, List.getElem_toArray, List.getElem_cons_succ, List.getElem_cons_zero, List.setIfInBounds_toArray, List.set_cons_zero, List.set_cons_succ]
  refine WD_free (i := 2) (oi := _) (v := ?_) rfl (by kernel_rfl) (fun _ _ _ h => h) (Or.inl ⟨by rfl, ?_⟩) ?_
  rotate_left
  · (intro W hS; (try dsimp only at hS); clear hS; go_simp; with_reducible rfl)
  try simp only [Act.put, List.getElem_toArray, List.getElem_cons_succ, List.getElem_cons_zero, List.setIfInBounds_toArray, List.set_cons_zero, List.set_cons_succ]
  refine WD_free (i := 3) (oi := _) (v := ?_) rfl (by kernel_rfl) (fun _ _ _ h => h) (Or.inl ⟨by rfl, ?_⟩) ?_
  rotate_left
  · (intro W hS; (try dsimp only at hS); clear hS; go_simp; with_reducible rfl)
  try simp only [Act.put, List.getElem_toArray, List.getElem_cons_succ, List.getElem_cons_zero, List.setIfInBounds_toArray, List.set_cons_zero, List.set_cons_succ]
  refine WD_free (i := 4) (oi := _) (v := ?_) rfl (by kernel_rfl) (fun _ _ _ h => h) (Or.inl ⟨by rfl, ?_⟩) ?_
  rotate_left
  · (intro W hS; (try dsimp only at hS); clear hS; go_simp; with_reducible rfl)
  try simp only [Act.put, List.getElem_toArray, List.getElem_cons_succ, List.getElem_cons_zero, List.setIfInBounds_toArray, List.set_cons_zero, List.set_cons_succ]
  refine WD_take (i := 5) (oi := _) (v := ?_) rfl (by kernel_rfl) (fun _ _ _ h => h) (Or.inl ⟨by rfl, ?_⟩) (by assumption) ?_
  rotate_left
  · (intro W hS; (try dsimp only at hS); have kk := (hS.cell (p := ⟨sb, 1, none⟩) zsb).trans c1; clear hS; go_simp; with_reducible rfl)
  try simp only [Act.put, List.getElem_toArray, List.getElem_cons_succ, List.getElem_cons_zero, List.setIfInBounds_toArray, List.set_cons_zero, List.set_cons_succ]
  refine WD_free (i := 6) (oi := _) (v := ?_) rfl (by kernel_rfl) (fun _ _ _ h => h) (Or.inl ⟨by rfl, ?_⟩) ?_
  rotate_left
  · (intro W hS; (try dsimp only at hS); clear hS; go_simp; with_reducible rfl)
  try simp only [Act.put, List.getElem_toArray, List.getElem_cons_succ, List.getElem_cons_zero, List.setIfInBounds_toArray, List.set_cons_zero, List.set_cons_succ]
  refine WD_free (i := 7) (oi := _) (v := ?_) rfl (by kernel_rfl) (fun _ _ _ h => h) (Or.inl ⟨by rfl, ?_⟩) ?_
  rotate_left
  · (intro W hS; (try dsimp only at hS); clear hS; go_simp; with_reducible rfl)
  try simp only [Act.put, List.getElem_toArray, List.getElem_cons_succ, List.getElem_cons_zero, List.setIfInBounds_toArray, List.set_cons_zero, List.set_cons_succ]
  refine WD_free (i := 8) (oi := _) (v := ?_) rfl (by kernel_rfl) (fun _ _ _ h => h) (Or.inl ⟨by rfl, ?_⟩) ?_
  rotate_left
  · (intro W hS; (try dsimp only at hS); clear hS; go_simp; with_reducible rfl)
  try simp only [Act.put, List.getElem_toArray, List.getElem_cons_succ, List.getElem_cons_zero, List.setIfInBounds_toArray, List.set_cons_zero, List.set_cons_succ]
  refine WD_take (i := 9) (oi := _) (v := ?_) rfl (by kernel_rfl) (fun _ _ _ h => h) (Or.inl ⟨by rfl, ?_⟩) (by assumption) ?_
  rotate_left
  · (intro W hS; (try dsimp only at hS); have kk := (hS.cell (p := ⟨sb, 0, none⟩) zsb).trans c0; clear hS; go_simp; with_reducible rfl)
  try simp only [Act.put, List.getElem_toArray, List.getElem_cons_succ, List.getElem_cons_zero, List.setIfInBounds_toArray, List.set_cons_zero, List.set_cons_succ]
  refine WD_step (i := 10) (o := _) rfl (by kernel_rfl) (fun K hK => ?_)
  go_simp
  refine (HLy.out _ (HRB.out.below hHeld (Nat.le_refl _))).mono ?_
  rintro e w6 ⟨v6, rfl, hb6, hown6⟩
  obtain ⟨g6, c6, rfl, hg6, _, _, _⟩ := own_shape hown6 (by decide)
  go_wp2_with fail
  replace hHeld := below_two hHeld hb6
  refine hK.out _ _ (fun _ _ => hHeld) ?_
  clear hK K
  try simp only [Act.put, List.getElem_toArray, List.getElem_cons_succ, List.getElem_cons_zero, List.setIfInBounds_toArray, List.set_cons_zero, List.set_cons_succ]
  refine WD_free (i := 11) (oi := _) (v := ?_) rfl (by kernel_rfl) (fun _ _ _ h => h) (Or.inl ⟨by rfl, ?_⟩) ?_
  rotate_left
  · (intro W hS; (try dsimp only at hS); clear hS; go_simp; with_reducible rfl)
  try simp only [Act.put, List.getElem_toArray, List.getElem_cons_succ, List.getElem_cons_zero, List.setIfInBounds_toArray, List.set_cons_zero, List.set_cons_succ]
  refine WD_free (i := 12) (oi := _) (v := ?_) rfl (by kernel_rfl) (fun _ _ _ h => h) (Or.inl ⟨by rfl, ?_⟩) ?_
  rotate_left
  · (intro W hS; (try dsimp only at hS); clear hS; go_simp; with_reducible rfl)
  try simp only [Act.put, List.getElem_toArray, List.getElem_cons_succ, List.getElem_cons_zero, List.setIfInBounds_toArray, List.set_cons_zero, List.set_cons_succ]
  refine WD_free (i := 13) (oi := _) (v := ?_) rfl (by kernel_rfl) (fun _ _ _ h => h) (Or.inl ⟨by rfl, ?_⟩) ?_
  rotate_left
  · (intro W hS; (try dsimp only at hS); clear hS; go_simp; with_reducible rfl)
  try simp only [Act.put, List.getElem_toArray, List.getElem_cons_succ, List.getElem_cons_zero, List.setIfInBounds_toArray, List.set_cons_zero, List.set_cons_succ]
  refine WD_free (i := 14) (oi := _) (v := ?_) rfl (by kernel_rfl) (fun _ _ _ h => h) (Or.inl ⟨by rfl, ?_⟩) ?_
  rotate_left
  · (intro W hS; (try dsimp only at hS); clear hS; go_simp; with_reducible rfl)
  try simp only [Act.put, List.getElem_toArray, List.getElem_cons_succ, List.getElem_cons_zero, List.setIfInBounds_toArray, List.set_cons_zero, List.set_cons_succ]
  refine WD_free (i := 15) (oi := _) (v := ?_) rfl (by kernel_rfl) (fun _ _ _ h => h) (Or.inl ⟨by rfl, ?_⟩) ?_
  rotate_left
  · (intro W hS; (try dsimp only at hS); clear hS; go_simp; with_reducible rfl)
  try simp only [Act.put, List.getElem_toArray, List.getElem_cons_succ, List.getElem_cons_zero, List.setIfInBounds_toArray, List.set_cons_zero, List.set_cons_succ]
  refine WD_step (i := 16) (o := _) rfl (by kernel_rfl) (fun K hK => ?_)
  have c0' := (hHeld.cell (p := ⟨sb, 0, none⟩) zsb).trans c0
  have f0' := (hHeld.frozen (p := ⟨sb, 0, none⟩) zsb).trans f0
  go_simp
  refine hK.out _ _ (fun h => by cases h) ?_
  clear hK K
  try simp only [Act.put, List.getElem_toArray, List.getElem_cons_succ, List.getElem_cons_zero, List.setIfInBounds_toArray, List.set_cons_zero, List.set_cons_succ]
  refine WD_done (by kernel_rfl) ?_ _

  have HH := Lib.hid hHeld
  clear hHeld
  go_wp2_with fail
  refine bodyPost_end (results_none rfl _ _ _) rfl ?_
  have hbel := HH.out
  refine ⟨rfl, ⟨⟨g6, c6, World.cell?_setCell_same' _ _ _ (by simp [c0']), sown_far (own_lower hown6 (by simp)) zsb _⟩, (sset_other (by decide)).trans ((hbel.cell (p := ⟨sb, 1, none⟩) zsb).trans c1), by rw [World.frozen?_setCell]; exact f0', HCl.out⟩, (hbel.mono (Nat.le_of_lt zsb)).setCell (p := ⟨sb, 0, none⟩) (Nat.le_refl _) _, by have := hbel.size; simpa [World.setCell] using this, fun j hj hne => ?_, (keeps_below hbel).trans (KeepsOthers.setCell _ _ _)⟩
  rw [Below.heap_setCell _ _ _ _ hne]
  exact hbel.block j hj
set_option maxRecDepth 20000 in
set_option maxHeartbeats 3200000 in
theorem sent_pass (i sb B cnt : Nat) (xs : List Nat) (h : Hp) (a : Option Addr) (c : Nat) (W : World) (hs : SentAt W sb B xs cnt) (ht : h.turn < 256) (hat : h.turn ≠ 0 → 0 ≤ h.at' ∧ h.at' < 17) (hB : sb < B) (hBW : B ≤ W.heap.size) :
    Calls Try.prog 28 #[.pointer (some ⟨sb, 0, none⟩), .agg (hopC h a c), .int .i64 i] W fun e w' => e = .returned (.tuple #[]) ∧ SentAt w' sb B (passF h i xs) cnt ∧ Below B W w' ∧ KeepsOthers W w' := by
  have HS := Lib.hid hs
  have hCl := hs.cl.pass ht i
  have HCl := Lib.hid hCl
  have hkeep : ∀ o, SentAt (W.alloc o) sb B xs cnt ∧ Below B W (W.alloc o) ∧ KeepsOthers W (W.alloc o) := fun o =>
    ⟨hs.keep (alloc_below W o), (alloc_below W o).mono hBW, keeps_below (alloc_below W o)⟩
  have HK := Lib.hid hkeep
  by_cases hp : h.turn ≠ 0 ∧ h.link = (i : Int)
  · have he : passF h i xs = xs.set h.at'.toNat (xs.getD h.at'.toNat 0 ^^^ h.turn) := if_pos hp
    rw [he] at HCl ⊢
    obtain ⟨p1, p2⟩ := hat hp.1
    obtain ⟨kind, k, l, body, link, at', turn⟩ := h
    simp only at he hp p1 p2 ht HCl ⊢
    obtain ⟨A, rfl⟩ := Int.eq_ofNat_of_zero_le p1
    have hA : A < 17 := by omega
    rw [Int.toNat_natCast] at HCl ⊢
    obtain ⟨t1, rfl⟩ := hp
    have e3 : ((turn : Int) != 0) = true := by simp; omega
    have e4 : ((turn : Int) == 0) = false := by simp; omega
    obtain ⟨g, c', c0, hown⟩ := hs.c0
    obtain ⟨x, hx⟩ : ∃ x, xs[A]? = some x := ⟨_, List.getElem?_eq_getElem (by rw [hs.cl.1]; exact hA)⟩
    have hgd : xs.getD A 0 = x := by rw [List.getD_eq_getElem?_getD, hx]; rfl
    rw [hgd] at HCl ⊢
    have hx8 := hs.cl.2 x (List.mem_of_getElem? hx)
    obtain ⟨L, hL⟩ : ∃ L, body.length = L := ⟨_, rfl⟩
    unfold hopC
    simp only
    rw [hL]
    obtain ⟨Wh, hWh⟩ : ∃ Wh, W.alloc (.cells #[.int .i64 kind, .int .i64 k, .int .i64 l, .slice a L c, .int .i64 (i : Int), .int .i64 (A : Int), .int .u8 (turn : Int)] 33) = Wh := ⟨_, rfl⟩
    obtain ⟨hb, hhb⟩ : ∃ b, W.heap.size = b := ⟨_, rfl⟩
    have h5 : Wh.cell? ⟨hb, 5, none⟩ = some (.int .i64 (A : Int)) := by rw [← hWh, ← hhb]; simp [go_sem]
    have h6 : Wh.cell? ⟨hb, 6, none⟩ = some (.int .u8 (turn : Int)) := by rw [← hWh, ← hhb]; simp [go_sem]
    have hk := hkeep (.cells #[.int .i64 kind, .int .i64 k, .int .i64 l, .slice a L c, .int .i64 (i : Int), .int .i64 (A : Int), .int .u8 (turn : Int)] 33)
    rw [hWh] at hk
    have HKh := Lib.hid hk
    have hownh : Wh.ownsRow B 5 1 (.slice (some ⟨g, 0, none⟩) 17 c') 17 (byV xs) := hWh ▸ own_keep hown (alloc_below W _)
    have c0h : Wh.cell? ⟨sb, 0, none⟩ = some (.slice (some ⟨g, 0, none⟩) 17 c') := hWh ▸ kept (alloc_below W _) c0 hs.lt
    have kx : Wh.cell? ⟨g, A, none⟩ = some (.int .u8 (x : Int)) := own_cell hownh (by simp [byV, hx])
    have fx := own_frozen hownh A
    have zsb : sb < Wh.heap.size := World.block_lt_of_cell? _ _ c0h
    have zhb : hb < Wh.heap.size := World.block_lt_of_cell? _ _ h5
    have zg : g < Wh.heap.size := World.block_lt_of_cell? _ _ kx
    obtain ⟨_, hgs, hgb, _⟩ := own_heap hownh
    have fw : bits .xor .u8 (x : Int) (turn : Int) = ((x ^^^ turn : Nat) : Int) := xor8 x turn hx8 ht
    have HOn := Lib.hid (own_set hownh hA (.int .u8 ((x ^^^ turn : Nat) : Int)))
    have HWh := Lib.hid hWh
    have HHb := Lib.hid hhb
    clear hs hkeep hown hx hgd hL hk hownh c0 he hWh hhb
    replace c0 := c0h
    go_enter Try.func28, Try.ntmps28
    go_wp2_with fail
    rw [HWh.out, HHb.out]
    refine wp_region_D (S := (fun W : World => Below Wh.heap.size Wh W)) (fun j => j != 12) (by kernel_rfl) (Below.refl _ _).drew (fun hHeld => ?_)
    simp only [List.size_toArray, List.length_cons, List.length_nil, Nat.reduceAdd, Array.replicate_succ, Array.replicate_zero, List.push_toArray, List.append_toArray, List.nil_append, List.cons_append]
    refine WD_free (i := 0) (oi := _) (v := ?_) rfl (by kernel_rfl) (fun _ _ _ h => h) (Or.inl ⟨by rfl, ?_⟩) ?_
    rotate_left
    · (intro W hS; (try dsimp only at hS); clear hS; go_simp; with_reducible rfl)
    try simp only [Act.put, List.getElem_toArray, List.getElem_cons_succ, List.getElem_cons_zero, List.setIfInBounds_toArray, List.set_cons_zero, List.set_cons_succ]
    refine WD_free (i := 1) (oi := _) (v := ?_) rfl (by kernel_rfl) (fun _ _ _ h => h) (Or.inl ⟨by rfl, ?_⟩) ?_
    rotate_left
    · (intro W hS; (try dsimp only at hS); clear hS; go_simp; with_reducible rfl)
    try simp only [Act.put, List.getElem_toArray, List.getElem_cons_succ, List.getElem_cons_zero, List.setIfInBounds_toArray, List.set_cons_zero, List.set_cons_succ]
    refine WD_free (i := 2) (oi := _) (v := ?_) rfl (by kernel_rfl) (fun _ _ _ h => h) (Or.inl ⟨by rfl, ?_⟩) ?_
    rotate_left
    · (intro W hS; (try dsimp only at hS); clear hS; go_simp; with_reducible rfl)
    try simp only [Act.put, List.getElem_toArray, List.getElem_cons_succ, List.getElem_cons_zero, List.setIfInBounds_toArray, List.set_cons_zero, List.set_cons_succ]
    refine WD_take (i := 3) (oi := _) (v := ?_) rfl (by kernel_rfl) (fun _ _ _ h => h) (Or.inl ⟨by rfl, ?_⟩) (by assumption) ?_
    rotate_left
    · (intro W hS; (try dsimp only at hS); have kk := (hS.cell (p := ⟨sb, 0, none⟩) zsb).trans c0; clear hS; go_simp; with_reducible rfl)
    try simp only [Act.put, List.getElem_toArray, List.getElem_cons_succ, List.getElem_cons_zero, List.setIfInBounds_toArray, List.set_cons_zero, List.set_cons_succ]
    refine WD_free (i := 4) (oi := _) (v := ?_) rfl (by kernel_rfl) (fun _ _ _ h => h) (Or.inl ⟨by rfl, ?_⟩) ?_
    rotate_left
    · (intro W hS; (try dsimp only at hS); clear hS; go_simp; with_reducible rfl)
    try simp only [Act.put, List.getElem_toArray, List.getElem_cons_succ, List.getElem_cons_zero, List.setIfInBounds_toArray, List.set_cons_zero, List.set_cons_succ]
    refine WD_take (i := 5) (oi := _) (v := ?_) rfl (by kernel_rfl) (fun _ _ _ h => h) (Or.inl ⟨by rfl, ?_⟩) (by assumption) ?_
    rotate_left
    · (intro W hS; (try dsimp only at hS); have kk := (hS.cell (p := ⟨hb, 5, none⟩) zhb).trans h5; clear hS; go_simp; with_reducible rfl)
    try simp only [Act.put, List.getElem_toArray, List.getElem_cons_succ, List.getElem_cons_zero, List.setIfInBounds_toArray, List.set_cons_zero, List.set_cons_succ]
    refine WD_free (i := 6) (oi := _) (v := ?_) rfl (by kernel_rfl) (fun _ _ _ h => h) (Or.inl ⟨by rfl, ?_⟩) ?_
    rotate_left
    · (intro W hS; (try dsimp only at hS); clear hS; go_simp; with_reducible rfl)
    try simp only [Act.put, List.getElem_toArray, List.getElem_cons_succ, List.getElem_cons_zero, List.setIfInBounds_toArray, List.set_cons_zero, List.set_cons_succ]
    refine WD_take (i := 7) (oi := _) (v := ?_) rfl (by kernel_rfl) (fun _ _ _ h => h) (Or.inl ⟨by rfl, ?_⟩) (by assumption) ?_
    rotate_left
    · (intro W hS; (try dsimp only at hS); have kk := (hS.cell (p := ⟨g, A, none⟩) zg).trans kx; clear hS; go_simp; with_reducible rfl)
    try simp only [Act.put, List.getElem_toArray, List.getElem_cons_succ, List.getElem_cons_zero, List.setIfInBounds_toArray, List.set_cons_zero, List.set_cons_succ]
    refine WD_free (i := 8) (oi := _) (v := ?_) rfl (by kernel_rfl) (fun _ _ _ h => h) (Or.inl ⟨by rfl, ?_⟩) ?_
    rotate_left
    · (intro W hS; (try dsimp only at hS); clear hS; go_simp; with_reducible rfl)
    try simp only [Act.put, List.getElem_toArray, List.getElem_cons_succ, List.getElem_cons_zero, List.setIfInBounds_toArray, List.set_cons_zero, List.set_cons_succ]
    refine WD_take (i := 9) (oi := _) (v := ?_) rfl (by kernel_rfl) (fun _ _ _ h => h) (Or.inl ⟨by rfl, ?_⟩) (by assumption) ?_
    rotate_left
    · (intro W hS; (try dsimp only at hS); have kk := (hS.cell (p := ⟨hb, 6, none⟩) zhb).trans h6; clear hS; go_simp; with_reducible rfl)
    try simp only [Act.put, List.getElem_toArray, List.getElem_cons_succ, List.getElem_cons_zero, List.setIfInBounds_toArray, List.set_cons_zero, List.set_cons_succ]
    refine WD_free (i := 10) (oi := _) (v := ?_) rfl (by kernel_rfl) (fun _ _ _ h => h) (Or.inl ⟨by rfl, ?_⟩) ?_
    rotate_left
    · (intro W hS; (try dsimp only at hS); clear hS; go_simp; with_reducible rfl)
    try simp only [Act.put, List.getElem_toArray, List.getElem_cons_succ, List.getElem_cons_zero, List.setIfInBounds_toArray, List.set_cons_zero, List.set_cons_succ]
    refine WD_free (i := 11) (oi := _) (v := ?_) rfl (by kernel_rfl) (fun _ _ _ h => h) (Or.inl ⟨by rfl, ?_⟩) ?_
    rotate_left
    · (intro W hS; (try dsimp only at hS); clear hS; go_simp; with_reducible rfl)
    try simp only [Act.put, List.getElem_toArray, List.getElem_cons_succ, List.getElem_cons_zero, List.setIfInBounds_toArray, List.set_cons_zero, List.set_cons_succ]
    refine WD_step (i := 12) (o := _) rfl (by kernel_rfl) (fun K hK => ?_)
    have kx' := (hHeld.cell (p := ⟨g, A, none⟩) zg).trans kx
    have fx' := (hHeld.frozen (p := ⟨g, A, none⟩) zg).trans fx
    go_simp
    refine hK.out _ _ (fun h => by cases h) ?_
    clear hK K
    try simp only [Act.put, List.getElem_toArray, List.getElem_cons_succ, List.getElem_cons_zero, List.setIfInBounds_toArray, List.set_cons_zero, List.set_cons_succ]
    refine WD_done (by kernel_rfl) ?_ _

    have HH := Lib.hid hHeld
    clear hHeld
    go_wp2_with fail
    refine bodyPost_end (results_none rfl _ _ _) rfl ?_
    have e1 : byV (xs.set A (x ^^^ turn)) = (byV xs).set A (.int .u8 ((x ^^^ turn : Nat) : Int)) := by simp [byV, List.map_set]
    obtain ⟨hS1, hS2, hS3⟩ := HKh.out
    have far : ∀ o : Nat, (Wh.setCell ⟨g, A, none⟩ (.int .u8 ((x ^^^ turn : Nat) : Int))).cell? ⟨sb, o, none⟩ = Wh.cell? ⟨sb, o, none⟩ := fun o => World.cell?_setCell_far _ _ _ _ (show (⟨g, A, none⟩ : Addr).block ≠ (⟨sb, o, none⟩ : Addr).block from fun e => by simp only at e; omega)
    refine ⟨rfl, ⟨⟨g, c', (far 0).trans c0, by rw [e1]; exact HOn.out⟩, (far 1).trans hS1.c1, ?_, HCl.out⟩, hS2.trans ((Below.refl B Wh).setCell (p := ⟨g, A, none⟩) hgs _).drew, hS3.trans ((KeepsOthers.setCell _ _ _).trans (KeepsOthers.drew _))⟩
    show (Wh.setCell ⟨g, A, none⟩ _).frozen? ⟨sb, 0, none⟩ = false
    rw [World.frozen?_setCell]; exact hS1.f0
  · have he : passF h i xs = xs := if_neg hp
    rw [he]
    obtain ⟨kind, k, l, body, link, at', turn⟩ := h
    simp only at hp ht
    obtain ⟨L, hL⟩ : ∃ L, body.length = L := ⟨_, rfl⟩
    unfold hopC
    simp only
    rw [hL]
    clear hs hkeep hL he hat hCl HCl
    have key : turn = 0 ∨ (¬ turn = 0 ∧ ¬ link = (i : Int)) := by omega
    rcases key with h1 | ⟨h1, h3⟩
    · have e3 : ((turn : Int) != 0) = false := by simp; omega
      have e4 : ((turn : Int) == 0) = true := by simp; omega
      clear h1 hp
      go_enter Try.func28, Try.ntmps28
      go_wp2_with fail
      refine bodyPost_end (results_none rfl _ _ _) rfl ?_
      exact ⟨rfl, HK.out _⟩
    · have e3 : ((turn : Int) != 0) = true := by simp; omega
      have e4 : ((turn : Int) == 0) = false := by simp; omega
      have e5 : (link == (i : Int)) = false := by simpa using h3
      clear h1 hp h3
      go_enter Try.func28, Try.ntmps28
      go_wp2_with fail
      refine bodyPost_end (results_none rfl _ _ _) rfl ?_
      exact ⟨rfl, HK.out _⟩
end Go.Proofs.Ytkodhpjmmiapaaa

/- slices.Backward over a row of ints of the call's own. -/
namespace Go.Proofs.Ytkodhpjmmiapaaa
open Go.RowKit Go.Shelf
attribute [local go_sem] Oper.semAt_some
set_option linter.unusedVariables false
set_option linter.unusedSimpArgs false
def encK (ks : List Nat) (k : Nat) : Array Value := #[.int .i64 k, .int .i64 ((ks.getD k 0 : Nat) : Int)]
theorem rev_at {L K : Nat} (h : K < L) : (List.range L).reverse[L - (K + 1)]? = some K := by
  rw [List.getElem?_reverse (by simp; omega), List.length_range, show L - 1 - (L - (K + 1)) = K by omega, List.getElem?_range h]
theorem rev_step {L K : Nat} (h : K < L) : (List.range L).reverse.take (L - (K + 1)) ++ [K] = (List.range L).reverse.take (L - K) := by
  rw [show L - K = L - (K + 1) + 1 by omega, List.take_add_one, rev_at h]; rfl
theorem rev_pre {L : Nat} {pre : List Nat} {x : Nat} (h : pre ++ [x] <+: (List.range L).reverse) : x < L ∧ ∀ j, x < j → j < L → j ∈ pre := by
  obtain ⟨t, ht⟩ := h
  have hx : (List.range L).reverse[pre.length]? = some x := by rw [← ht]; simp
  have hlt : pre.length < L := by have := (List.getElem?_eq_some_iff.1 hx).1; simpa using this
  rw [List.getElem?_reverse (by simpa using hlt), List.length_range, List.getElem?_range (by omega)] at hx
  simp at hx
  refine ⟨by omega, fun j h1 h2 => ?_⟩
  have hj := rev_at h2
  rw [← ht, List.getElem?_append_left (by simp; omega), List.getElem?_append_left (by omega)] at hj
  exact List.mem_of_getElem? hj
set_option maxRecDepth 20000 in
set_option maxHeartbeats 2000000 in
theorem back_keys (g c Bn : Nat) (ks : List Nat) (L : Nat) (hL : ks.length = L) (hl : L ≤ 1048576) :
    IterM Try.prog 41 #[.pointer (some ⟨Bn, 0, none⟩)] (encK ks) (List.range L).reverse (fun W => Boxed W Bn 42 (.slice (some ⟨g, 0, none⟩) L c) ∧ ∀ (j : Nat) (x : Nat), ks[j]? = some x → W.cell? ⟨g, j, none⟩ = some (.int .i64 (x : Int))) := by
  intro n l J Jx W hRd hdr hY h0
  clear hdr
  have HRd := Lib.hid hRd
  have HY := Lib.hid hY
  have HST := Lib.hid fun K => rev_step (L := L) (K := K)
  have HAll := Lib.hid (show (List.range L).reverse.take (L - 0) = (List.range L).reverse by rw [List.take_of_length_le (by simp)])
  have HN := Lib.hid (show (List.range L).reverse.take (L - L) = [] by rw [Nat.sub_self, List.take_zero])
  have HL := Lib.hid hL
  have hR0 := hRd _ _ h0
  have hc := hR0.1.cell
  have hfz := hR0.1.frozen
  have H0 := Lib.hid h0
  clear hR0 hRd hY h0 hL
  refine callsIn_of_wp Try.func41 rfl trivial ?_ rfl
  simp only [Try.ntmps41, List.size_toArray, List.length_cons, List.length_nil, Nat.reduceAdd, Nat.reduceSub, Array.replicate_succ, Array.replicate_zero, List.push_toArray, List.append_toArray, List.nil_append, List.cons_append]
  gi_wp2
  gi_loopw [3] (fun s wr => ∃ K : Nat, s = .int .i64 ((K : Int) - 1) ∧ K ≤ L ∧ J ((List.range L).reverse.take (L - K)) wr) (fun s _ => (intOf s + 1).toNat)
  case atStart => exact ⟨L, rfl, Nat.le_refl _, by rw [HN.out]; exact H0.out⟩
  case round =>
    obtain ⟨K, rfl, hK, hj⟩ := hrel
    by_cases hK0 : K = 0
    · subst hK0
      have HJ := Lib.hid hj
      clear hj
      gi_wp2
      go_end0
      exact ⟨⟨_, rfl⟩, .inl (by rw [← HAll.out]; exact HJ.out)⟩
    · obtain ⟨k, rfl⟩ : ∃ k, K = k + 1 := ⟨K - 1, by omega⟩
      clear hK0
      rw [show (((k + 1 : Nat) : Int) - 1) = (k : Int) by omega]
      obtain ⟨hb1, hcell⟩ := HRd.out _ _ hj
      have hc1 := hb1.cell
      have hfz1 := hb1.frozen
      obtain ⟨x, hx⟩ : ∃ x, ks[k]? = some x := ⟨_, List.getElem?_eq_getElem (by rw [HL.out]; omega)⟩
      have kx := hcell k x hx
      have hgd : ks.getD k 0 = x := by rw [List.getD_eq_getElem?_getD, hx]; rfl
      have hst := HST.out k (by omega)
      have hpre : (List.range L).reverse.take (L - (k + 1)) ++ [k] <+: (List.range L).reverse := by rw [hst]; exact List.take_prefix _ _
      obtain ⟨fn, tmps, assign, body, hy, hR⟩ := HY.out _ k _ hj hpre
      have HR := Lib.hid hR
      have HS := Lib.hid hst
      have HP := Lib.hid hpre
      dsimp only [encK] at hy
      rw [hgd] at hy
      clear hR hst hcell hx hb1 hj hpre hgd
      gi_wp2
      refine ⟨fun h => (by cases h), HR.out.mono ?_⟩
      rintro e W3 (⟨rfl, hJ3⟩ | ⟨rfl, hJx3⟩)
      · gi_wp2
        go_roundw
        case rel => exact ⟨k, by go_num, by omega, by rw [← HS.out]; exact hJ3⟩
        case measure => simp [intOf]
      · gi_wp2
        refine bodyPost_ret (results_none rfl _ _ _) rfl ?_
        exact ⟨⟨_, rfl⟩, .inr ⟨_, HP.out, hJx3⟩⟩
set_option maxHeartbeats 800000 in
theorem keys_Backward (a : Option Addr) (len c : Nat) (w : World) :
    Calls Try.prog 26 #[.slice a len c] w fun e w' => e = .returned (.func (.func 41) #[] #[.pointer (some ⟨w.heap.size, 0, none⟩)]) ∧ w' = w.alloc (.cells #[.slice a len c] 42) := by
  go_enter Try.func26, Try.ntmps26
  go_wp2
  go_ret
  exact ⟨rfl, rfl⟩
end Go.Proofs.Ytkodhpjmmiapaaa

/- XHold inside a fence: a region that draws, none of whose operations is a deferred call; the fence may have a round. -/
namespace Go.Proofs.Ytkodhpjmmiapaaa
section
variable {F : Fence} {n : Nat} {P : Program} {ops : Array Oper} {Q : Exit → Act → World → Prop} {md : Region.Mode} {S : World → Prop} {D : Nat → Bool}
def YieldsI (P : Program) (ops : Array Oper) (S : World → Prop) (o : Oper) (v : Value) (a : Act) : Prop := YieldsIf P ops S o v a ∧ ∀ w, o.about P w a.eval = none
def noDefer (ops : Array Oper) : Bool := ops.all fun o => match o.op with | .defer _ => false | _ => true
theorem noDefer_spec (h : noDefer ops = true) {i : Nat} {o : Oper} (ho : ops[i]? = some o) : ∀ c, o.op ≠ .defer c := fun c e => by
  unfold noDefer at h
  obtain ⟨hi, rfl⟩ := Array.getElem?_eq_some_iff.1 ho
  have := Array.all_eq_true.1 h i hi
  rw [e] at this
  cases this
theorem YieldsI.wpOpIn {i : Nat} {o : Oper} {v : Value} {a : Act} (hnd : ∀ c, o.op ≠ .defer c) (hi : ops[i]? = some o) (hy : YieldsI P ops S o v a)
    {K : Act → World → Prop} {w : World} (hS : S w) (h : K (a.put o.dst v) w) : wpOpIn F n P ops Q i K a w := by
  unfold Go.wpOpIn
  simp only [hi]
  have hab : ∀ f, o.about P w a.eval = some f → F.fn f := fun f hf => by rw [hy.2 w] at hf; cases hf
  rcases hy.1 with ⟨hw, hv⟩ | ⟨hw, rfl⟩
  · simp only [hw, if_true, Oper.wpIn, Oper.semAt_eq _ _ _ hnd, hv w hS, Oper.uponIn]; exact ⟨hab, h⟩
  · simp only [hw, Bool.false_eq_true, if_false]; exact ⟨hab, h⟩
theorem YieldsI.of_same {o : Oper} {v : Value} {a a' : Act} (hy : YieldsI P ops S o v a) (he : execOp a'.eval o = execOp a.eval o)
    (hw : Region.wanted o (yielded ops a'.tmps) = Region.wanted o (yielded ops a.tmps)) (hb : ∀ w, o.about P w a'.eval = o.about P w a.eval) : YieldsI P ops S o v a' :=
  ⟨hy.1.of_same he hw, fun w => by rw [hb w]; exact hy.2 w⟩
theorem wpOpIn_putI {j : Nat} {oi oj : Oper} {v : Value} (hnd : ∀ c, oj.op ≠ .defer c) (hj : ops[j]? = some oj) (hap : oi.apart ops oj = true)
    (hsi : ∀ cs b, oi.op ≠ .select cs b) (hsj : ∀ cs b, oj.op ≠ .select cs b)
    (hQ : ∀ c a w, Q (.panic c) (a.put oi.dst v) w → Q (.panic c) a w) {K : Act → World → Prop} {a : Act} {w : World}
    (hy : YieldsI P ops S oi v a) (h : wpOpIn F n P ops Q j K (a.put oi.dst v) w) :
    wpOpIn F n P ops Q j (fun a' w' => YieldsI P ops S oi v a' ∧ K (a'.put oi.dst v) w') a w := by
  obtain ⟨h1, h2, h3⟩ := Oper.apart_spec hap
  have keep : ∀ (a : Act), YieldsI P ops S oi v a → ∀ u, YieldsI P ops S oi v (a.put oj.dst u) := fun a hy u =>
    hy.of_same (execOp_put oi hsi a oj.dst u h3) (wanted_put oi a oj.dst u h3) (fun w => about_put oi w a oj.dst u h3)
  have keepD : ∀ d, YieldsI P ops S oi v { a with defers := d :: a.defers } := fun d => hy.of_same rfl rfl (fun _ => rfl)
  unfold wpOpIn at *
  simp only [hj] at *
  rw [wanted_put oj a oi.dst v h1, about_put oj w a oi.dst v h1] at h
  split
  · rename_i hw
    simp only [hw, if_true] at h
    unfold Oper.wpIn at *
    rw [about_put oj w a oi.dst v h1] at h
    refine ⟨h.1, ?_⟩
    have h := h.2
    rw [Oper.semAt_eq _ _ _ hnd, execOp_put oj hsj a oi.dst v h1] at h
    rw [Oper.semAt_eq _ _ _ hnd]
    generalize (execOp a.eval oj).run P w = r at *
    cases r with
    | ok x w' =>
      cases x <;> simp only [Oper.uponIn] at h ⊢
      case value u => exact ⟨keep a hy u, by rw [← Act.put_comm a v u h2]; exact h⟩
      case skip => exact ⟨keep a hy _, by rw [← Act.put_comm a v undef h2]; exact h⟩
      case defer d =>
        refine ⟨keep _ (keepD d) _, ?_⟩
        rw [← Act.put_comm _ v undef h2, ← Act.put_defers]
        exact h
      case enter f args =>
        refine ⟨h.1, CallsIn.mono h.2 fun e w'' he => ?_⟩
        cases e with
        | returned u => exact ⟨keep a hy u, by rw [← Act.put_comm a v u h2]; exact he⟩
        | panicked c => exact hQ _ _ _ he
        | outgrown => exact he
      case row row args => exact ⟨h.1, RowsIn.mono h.2 fun u w'' he => ⟨keep a hy u, by rw [← Act.put_comm a v u h2]; exact he⟩⟩
      case round l f tmps assign body =>
        refine ⟨h.1, RoundIn.mono h.2 fun e w'' he => ?_⟩
        cases e with
        | returned u => exact ⟨keep a hy u, by rw [← Act.put_comm a v u h2]; exact he⟩
        | panicked c => exact hQ _ _ _ he
        | outgrown => exact he
    | halt x w' =>
      cases x <;> simp only [Oper.uponIn] at h ⊢
      case panic u => exact hQ _ _ _ h
  · rename_i hw
    simp only [hw] at h
    exact ⟨h.1, keep a hy _, by rw [← Act.put_comm a v undef h2]; exact h.2⟩
def wpDI (F : Fence) (n : Nat) (P : Program) (md : Region.Mode) (ops : Array Oper) (Q : Exit → Act → World → Prop) (S : World → Prop) (D : Nat → Bool) : Nat → Array Bool → Act → World → Prop
  | 0, listed, a, w => Region.ready md ops listed = [] ∧ Q .normal a w
  | fuel + 1, listed, a, w =>
    (Region.ready md ops listed = [] → Q .normal a w) ∧
    ∀ i ∈ Region.ready md ops listed, wpOpIn F n P ops Q i (fun a' w' => (D i = true → S w → S w') ∧ wpDI F n P md ops Q S D fuel (listed.setIfInBounds i true) a' w') a w
theorem wpAnyIn_of_D : ∀ (fuel : Nat) (listed : Array Bool) (a : Act) (w : World), wpDI F n P md ops Q S D fuel listed a w → wpAnyIn F n P md ops Q fuel listed a w
  | 0, _, _, _, h => h
  | fuel + 1, _, _, _, h => ⟨h.1, fun i hi => wpOpIn_mono (fun a' w' h' => wpAnyIn_of_D fuel _ a' w' h'.2) (h.2 i hi)⟩
theorem wpDI_first {S' : World → Prop} {i : Nat} {oi : Oper} {v : Value} (hnd : noDefer ops = true) (hi : ops[i]? = some oi) (hsel : ∀ (j : Nat) (o : Oper) cs b, ops[j]? = some o → o.op ≠ .select cs b)
    (hQ : ∀ c a w, Q (.panic c) (a.put oi.dst v) w → Q (.panic c) a w)
    (hD : (∀ w, S' w) ∨ ((∀ w, S w → S' w) ∧ ∀ j, j < ops.size → D j = false → reachB md ops ops.size j i = true)) :
    ∀ (fuel : Nat) (listed : Array Bool) (a : Act) (w : World), ClosedL md ops listed →
      (∀ j oj, ops[j]? = some oj → j ≠ i → listed.getD j true = false → (∀ e ∈ oj.after, Region.binds md e = true → e.on ≠ i) → oi.apart ops oj = true) →
      i ∈ Region.ready md ops listed → YieldsI P ops S' oi v a → ((∀ w, S' w) ∨ S w) →
      wpDI F n P md ops Q S D fuel (listed.setIfInBounds i true) (a.put oi.dst v) w → wpDI F n P md ops Q S D (fuel + 1) listed a w := by
  have hSS : ∀ w, ((∀ w, S' w) ∨ S w) → S' w := fun w h => by
    rcases h with h | h
    · exact h w
    · rcases hD with h2 | h2
      · exact h2 w
      · exact h2.1 w h
  intro fuel
  induction fuel with
  | zero =>
    intro listed a w inv _ hr hy hS H
    refine ⟨fun h => (by rw [h] at hr; cases hr), fun j hj => ?_⟩
    by_cases hji : j = i
    · subst hji; exact hy.wpOpIn (noDefer_spec hnd hi) hi (hSS w hS) ⟨fun _ h => h, H⟩
    · have := ready_mono hj hji
      rw [H.1] at this
      cases this
  | succ fuel ih =>
    intro listed a w inv hfree hr hy hS H
    refine ⟨fun h => (by rw [h] at hr; cases hr), fun j hj => ?_⟩
    by_cases hji : j = i
    · subst hji; exact hy.wpOpIn (noDefer_spec hnd hi) hi (hSS w hS) ⟨fun _ h => h, H⟩
    · have h1 := H.2 j (ready_mono hj hji)
      obtain ⟨hjun, oj, hoj, hall⟩ := mem_ready.1 hj
      have hiun := (mem_ready.1 hr).1
      have hnot : ∀ e ∈ oj.after, Region.binds md e = true → e.on ≠ i := fun e he hb heq => by
        have h1 := hall e he hb
        rw [heq, getD_both hiun] at h1
        cases h1
      have h2 := wpOpIn_putI (noDefer_spec hnd hoj) hoj (hfree j oj hoj hji hjun hnot) (fun cs b => hsel i oi cs b hi) (fun cs b => hsel j oj cs b hoj) hQ hy h1
      have hfree' : ∀ k ok, ops[k]? = some ok → k ≠ i → (listed.setIfInBounds j true).getD k true = false →
          (∀ e ∈ ok.after, Region.binds md e = true → e.on ≠ i) → oi.apart ops ok = true := fun k ok hk hki hun hno => by
        refine hfree k ok hk hki ?_ hno
        by_cases hjk : j = k
        · subst hjk; exact hjun
        · rw [getD_set_ne true hjk] at hun; exact hun
      have hjlt : j < ops.size := (Array.getElem?_eq_some_iff.1 hoj).1
      have hDj : (∀ w, S' w) ∨ D j = true := by
        rcases hD with h | ⟨h, h'⟩
        · exact .inl h
        · right
          cases hd : D j with
          | true => rfl
          | false =>
            have := reach_ready inv hj (h' j hjlt hd)
            rw [getD_both hiun] at this
            cases this
      refine wpOpIn_mono (fun a' w' h3 => ⟨h3.2.1, ih (listed.setIfInBounds j true) a' w' (inv.set hj) hfree' (ready_mono hr (Ne.symm hji)) h3.1 ?_ ?_⟩) h2
      · rcases hDj with h | hd
        · exact .inl h
        · rcases hS with h | h
          · exact .inl h
          · exact .inr (h3.2.1 hd h)
      · rw [Array.setIfInBounds_comm _ _ hji]
        exact h3.2.2
def WDI (F : Fence) (n : Nat) (P : Program) (md : Region.Mode) (ops : Array Oper) (Q : Exit → Act → World → Prop) (S : World → Prop) (D : Nat → Bool) (fuel : Nat) (listed : Array Bool) (a : Act) (w : World) : Prop :=
  ClosedL md ops listed → wpDI F n P md ops Q S D fuel listed a w
/-- an operation that yields in whatever world is taken first -/
theorem WDI_free {i : Nat} {oi : Oper} {v : Value} {fuel : Nat} {listed : Array Bool} {a : Act} {w : World} (hi : ops[i]? = some oi)
    (hB : (noDefer ops && (Region.noSelect ops && Region.free md ops listed i && (Region.ready md ops listed).contains i)) = true)
    (hQ : ∀ c a w, Q (.panic c) (a.put oi.dst v) w → Q (.panic c) a w) (hy : YieldsIf P ops (fun _ => True) oi v a) (hab : ∀ w, oi.about P w a.eval = none)
    (h : WDI F n P md ops Q S D fuel (listed.setIfInBounds i true) (a.put oi.dst v) w) : WDI F n P md ops Q S D (fuel + 1) listed a w := fun inv => by
  simp only [Bool.and_eq_true] at hB
  obtain ⟨h0, ⟨h1, h6⟩, h7⟩ := hB
  exact wpDI_first (S' := fun _ => True) h0 hi (Region.noSelect_spec h1) hQ (.inl fun _ => trivial) fuel listed a w inv (Region.free_spec hi h6) (by simpa using h7) ⟨hy, hab⟩ (.inl fun _ => trivial) (h (inv.set (by simpa using h7)))
/-- one that reads by S is taken first -/
theorem WDI_take {i : Nat} {oi : Oper} {v : Value} {fuel : Nat} {listed : Array Bool} {a : Act} {w : World} (hi : ops[i]? = some oi)
    (hB : (noDefer ops && (Region.noSelect ops && Region.free md ops listed i && (Region.ready md ops listed).contains i && (List.range ops.size).all fun j => D j || reachB md ops ops.size j i)) = true)
    (hQ : ∀ c a w, Q (.panic c) (a.put oi.dst v) w → Q (.panic c) a w) (hy : YieldsIf P ops S oi v a) (hab : ∀ w, oi.about P w a.eval = none) (hS : S w)
    (h : WDI F n P md ops Q S D fuel (listed.setIfInBounds i true) (a.put oi.dst v) w) : WDI F n P md ops Q S D (fuel + 1) listed a w := fun inv => by
  simp only [Bool.and_eq_true] at hB
  obtain ⟨h0, ⟨⟨h1, h6⟩, h7⟩, h8⟩ := hB
  refine wpDI_first (S' := S) h0 hi (Region.noSelect_spec h1) hQ (.inr ⟨fun _ h => h, fun j hj hd => ?_⟩) fuel listed a w inv (Region.free_spec hi h6) (by simpa using h7) ⟨hy, hab⟩ (.inr hS) (h (inv.set (by simpa using h7)))
  have := List.all_eq_true.1 h8 j (List.mem_range.2 hj)
  rw [hd, Bool.false_or] at this
  exact this
/-- the only one that may come up comes up -/
theorem WDI_step {i : Nat} {o : Oper} {fuel : Nat} {listed : Array Bool} {a : Act} {w : World} (ho : ops[i]? = some o)
    (hB : decide (Region.ready md ops listed = [i]) = true)
    (h : ∀ K' : Act → World → Prop, Shut (∀ a w', (D i = true → S w → S w') → WDI F n P md ops Q S D fuel (listed.setIfInBounds i true) a w' → K' a w') → if Region.wanted o (yielded ops a.tmps) = true then Oper.wpIn F n P o a w K' Q else (∀ f, o.about P w a.eval = some f → F.fn f) ∧ K' (a.put o.dst undef) w) :
    WDI F n P md ops Q S D (fuel + 1) listed a w := fun inv => by
  simp only [decide_eq_true_eq] at hB
  refine ⟨fun h0 => (by rw [hB] at h0; cases h0), fun j hj => ?_⟩
  have hj' : j = i := by rw [hB] at hj; simpa using hj
  subst hj'
  exact wpOpIn_step ho (fun K' hK => h K' (fun a w' hS hW => hK a w' ⟨hS, hW (inv.set hj)⟩))
theorem WDI_done {listed : Array Bool} {a : Act} {w : World} (hr : (Region.ready md ops listed).isEmpty = true) (h : Q .normal a w) : ∀ fuel, WDI F n P md ops Q S D fuel listed a w
  | 0 => fun _ => ⟨by simpa using hr, h⟩
  | _ + 1 => fun _ => ⟨fun _ => h, by rw [show Region.ready md ops listed = [] by simpa using hr]; simp⟩
/-- the beginning -/
theorem wpIn_region_D {id : Nat} {a : Act} {w : World} (D : Nat → Bool) (hm : P.follows .mixedOrders = true) (hS : S w.drew)
    (h : S w.drew → WDI F n P .any ops Q S D ops.size (Array.replicate ops.size false) a w.drew) : (Code.region id ops true).wpIn F n P Q a w :=
  wpIn_region_any hm (wpAnyIn_of_D _ _ _ _ (h hS fun j oj _ hl => by rw [getD_replicate_false] at hl; cases hl))
/-- an operation that runs to a value -/
theorem wpIn_run {o : Oper} {a : Act} {w w' : World} {K : Act → World → Prop} {v : Value} (hnd : ∀ c, o.op ≠ .defer c) (hab : ∀ f, o.about P w a.eval = some f → F.fn f)
    (hrun : (execOp a.eval o).run P w = .ok (.value v) w') (h : K (a.put o.dst v) w') : Oper.wpIn F n P o a w K Q := by
  unfold Oper.wpIn
  rw [Oper.semAt_eq _ _ _ hnd, hrun]
  exact ⟨hab, h⟩
/-- append, as an operation by itself -/
theorem wpIn_append_own {o : Oper} {a : Act} {w : World} {K : Act → World → Prop} (s x : Operand) (t : TypeId) (hop : o.op = Op.call { callee := Callee.builtin Builtin.append, args := #[s, x], argTypes := #[t, t] })
    (base : Nat) (e : TypeId) (i : TypeInfo) (z : Value) (size bytes : Nat) (h1 : P.underlying t = some (.slice e)) (h2 : P.info? e = some i) (h3 : i.zero = some z) (h4 : i.size = size) (h5 : i.bytes = bytes) (h6 : z.cells.size = size) (h7 : 0 < size)
    (v : Value) (k : Nat) (xs : List Value) (hs : a.eval s = v) (hown : w.ownsRow base e size v k xs) (ad : Addr) (m c : Nat) (news : List Value) (hx : a.eval x = .slice (some ad) m c) (hn : news.length = m * size)
    (hc : ∀ j u, news[j]? = some u → w.cell? (ad.add j) = some u) (h1c : ∀ u ∈ news, u.oneCell' = true) (b1 : k + m ≤ maxLen) (b2 : (k + m) * bytes ≤ 140737488355328) (b3 : base ≤ w.heap.size)
    (hK : ∀ v' w', w'.ownsRow base e size v' (k + m) (xs ++ news) → w.grownBy w' v.ownBlock → (v' = .slice none 0 0 ↔ v = .slice none 0 0 ∧ m = 0) → K (a.put o.dst v') w') :
    Oper.wpIn F n P o a w K Q := by
  obtain ⟨v', w', hrun, r1, r2, r3⟩ := run_append_own (P := P) w base t o.type e i z size bytes h1 h2 h3 h4 h5 h6 h7 v k xs hown ad m c news hn hc h1c b1 b2 b3
  unfold Oper.wpIn
  refine ⟨?_, ?_⟩
  · simp [Oper.about, hop, resolve, Target.leads, Sem.run_pure]
  · rw [Oper.semAt_plain F _ _ (by rw [hop]; intro c hc'; cases hc')]
    simp [execOp, hop, resolve, invoke, builtin, hs, hx, hrun, Result.andThen, Oper.uponIn]
    exact hK _ _ r1 r2 r3
end
end Go.Proofs.Ytkodhpjmmiapaaa

/- Worlds while a cell is on its way. -/
namespace Go.Proofs.Ytkodhpjmmiapaaa
open Go.RowKit Go.Shelf
set_option linter.unusedVariables false
set_option linter.unusedSimpArgs false
def normOnly (Q : Exit → Act → World → Prop) : Exit → Act → World → Prop
  | .normal, a, w => Q .normal a w
  | _, _, _ => False
theorem wpIn_region_DN {F : Fence} {n : Nat} {P : Program} {ops : Array Oper} {Q : Exit → Act → World → Prop} {S : World → Prop} {id : Nat} {a : Act} {w : World} (D : Nat → Bool) (hm : P.follows .mixedOrders = true) (hS : S w.drew)
    (h : S w.drew → WDI F n P .any ops (normOnly Q) S D ops.size (Array.replicate ops.size false) a w.drew) : (Code.region id ops true).wpIn F n P Q a w :=
  wpIn_mono (wpIn_region_D D hm hS h) (fun e a w h => by cases e <;> first | exact h | exact h.elim)
theorem readN_nil_own (w : World) (b : Nat) : w.ownsRow b 5 1 (.slice none 0 0) 0 (byV []) := World.ownsRow_nil _ _ _ _
/-- cell.Read, whatever the cell -/
theorem read_all (k n b c : Nat) (xs : List Nat) (w : World) (hk : k < 65536) (hn : n ≤ 2147483648) (h : RowB w (some ⟨b, 0, none⟩) c xs) (hc : 17 ≤ c) (hl : Cl xs) :
    Calls Try.prog 29 #[.int .i64 k, .int .i64 n, .slice (some ⟨b, 0, none⟩) 17 c] w fun e w' =>
      ∃ v, e = .returned (.tuple #[v, .int .i64 (readF k n xs).1]) ∧ Below w.heap.size w w' ∧ w'.ownsRow w.heap.size 5 1 v (readF k n xs).2.length (byV (readF k n xs).2) := by
  cases hf : fitsB k n xs with
  | false =>
    refine (Read_sum k n b 0 c xs w hk hn h hl.1 hc hl.2 hf).mono ?_
    rintro e w' ⟨rfl, hb⟩
    have e1 : readF k n xs = (8, []) := by unfold readF; rw [hf]; rfl
    rw [e1]
    exact ⟨_, rfl, hb, readN_nil_own _ _⟩
  | true =>
    refine (Read_yes k n b 0 c xs w hk hn h hl.1 hc hl.2 hf).mono ?_
    rintro e w' ⟨hb, ⟨h1, rfl⟩ | ⟨h1, a', c', rfl, ho⟩⟩
    · have e1 : readF k n xs = (4, []) := by unfold readF; rw [hf, h1]; rfl
      rw [e1]
      exact ⟨_, rfl, hb, readN_nil_own _ _⟩
    · have e1 : readF k n xs = (0, readN xs) := by unfold readF; rw [hf, h1]; rfl
      rw [e1]
      exact ⟨_, rfl, hb, ho⟩
theorem wrong_le {n : Nat} {h : Hp} (hw : wrongF n h = 0) : 1 ≤ n ∧ h.body.length ≤ 14 ∧ (h.turn ≠ 0 → 0 ≤ h.at' ∧ h.at' < 17) := by
  unfold wrongF at hw
  split at hw
  · cases hw
  · split at hw
    · cases hw
    · split at hw
      · cases hw
      · refine ⟨by omega, by omega, fun ht => ?_⟩
        omega
/-- a way's cells -/
structure WayAt (W : World) (wb kg kc : Nat) (ks : List Nat) (th hm : Nat) : Prop where
  k : W.cell? ⟨wb, 5, none⟩ = some (.slice (some ⟨kg, 0, none⟩) ks.length kc)
  t : W.cell? ⟨wb, 6, none⟩ = some (.int .i64 (th : Int))
  m : W.cell? ⟨wb, 7, none⟩ = some (.int .i64 (hm : Int))
  f : ∀ j, W.frozen? ⟨wb, j, none⟩ = false
  xs : ∀ (j x : Nat), ks[j]? = some x → W.cell? ⟨kg, j, none⟩ = some (.int .i64 (x : Int))
theorem below_set2 {B : Nat} {w w' : World} (h : Below B w w') (a : Addr) (v : Value) : Below B (w.setCell a v) (w'.setCell a v) := by
  refine ⟨h.os, h.tape, h.output, by have := h.size; simpa [World.setCell] using this, fun k hk => ?_⟩
  simp only [World.setCell, Array.getElem?_modify]
  rw [h.block k hk]
/-- every old block but one is as it was (others may be written that the call itself made) -/
structure Butn (sb : Nat) (W W' : World) : Prop where
  bel : Below sb W W'
  block : ∀ k, k < W.heap.size → k ≠ sb → W'.heap[k]? = W.heap[k]?
theorem Butn.refl (sb : Nat) (W : World) : Butn sb W W := ⟨Below.refl _ _, fun _ _ _ => rfl⟩
theorem Butn.trans {sb : Nat} {a b c : World} (h : Butn sb a b) (k : Butn sb b c) : Butn sb a c :=
  ⟨h.bel.trans k.bel, fun j hj hn => (k.block j (Nat.lt_of_lt_of_le hj h.bel.size) hn).trans (h.block j hj hn)⟩
theorem Butk.n {sb : Nat} {a b : World} (h : Butk sb a b) : Butn sb a b := ⟨h.bel, h.block⟩
theorem Butn.below {sb B : Nat} {a b c : World} (h : Butn sb a b) (k : Below B b c) (hB : a.heap.size ≤ B) (hs : sb < a.heap.size) : Butn sb a c :=
  ⟨h.bel.trans (k.mono (by omega)), fun j hj hn => (k.block j (by omega)).trans (h.block j hj hn)⟩
theorem Butn.alloc {sb : Nat} {a b : World} (h : Butn sb a b) (hs : sb < a.heap.size) (o : Obj) : Butn sb a (b.alloc o) := h.below (alloc_below b o) h.bel.size hs
theorem Butn.put {sb : Nat} {a b : World} (h : Butn sb a b) (hs : sb < a.heap.size) {k : Nat} (hk : a.heap.size ≤ k) (o : Obj) : Butn sb a (b.putObj k o) :=
  h.below (below_put (Below.refl a.heap.size b) hk o) (Nat.le_refl _) hs
theorem Butn.cell {sb : Nat} {a b : World} (h : Butn sb a b) {p o : Nat} {v : Value} (hc : a.cell? ⟨p, o, none⟩ = some v) (hn : p ≠ sb) : b.cell? ⟨p, o, none⟩ = some v := by
  have hlt : p < a.heap.size := World.block_lt_of_cell? _ _ hc
  simp only [World.cell?] at hc ⊢
  rw [h.block p hlt hn]
  exact hc
theorem Butn.frozen {sb : Nat} {a b : World} (h : Butn sb a b) {p o : Nat} (hlt : p < a.heap.size) (hn : p ≠ sb) : b.frozen? ⟨p, o, none⟩ = a.frozen? ⟨p, o, none⟩ := by
  simp only [World.frozen?]
  rw [h.block p hlt hn]
theorem SentAt.put {W : World} {sb B cnt : Nat} {xs : List Nat} (h : SentAt W sb B xs cnt) {k : Nat} {y : Obj} (hk : k ≠ sb) (hy : W.heap[k]? = some y) (hc : y.isCells = false) (x : Obj) : SentAt (W.putObj k x) sb B xs cnt := by
  obtain ⟨g, c, q0, q1⟩ := h.c0
  have e : (W.putObj k x).heap[sb]? = W.heap[sb]? := World.putObj_heap_other (by omega)
  refine ⟨⟨g, c, ?_, ownsRow_putObj q1 x hy hc⟩, ?_, ?_, h.cl⟩
  · rw [← q0]; simp only [World.cell?]; rw [e]
  · rw [← h.c1]; simp only [World.cell?]; rw [e]
  · rw [← h.f0]; simp only [World.frozen?]; rw [e]
theorem rev_len {L : Nat} {pre : List Nat} {x : Nat} (h : pre ++ [x] <+: (List.range L).reverse) : pre.length + x + 1 = L := by
  obtain ⟨t, ht⟩ := h
  have hx : (List.range L).reverse[pre.length]? = some x := by rw [← ht]; simp
  have hlt : pre.length < L := by have := (List.getElem?_eq_some_iff.1 hx).1; simpa using this
  rw [List.getElem?_reverse (by simpa using hlt), List.length_range, List.getElem?_range (by omega)] at hx
  simp at hx
  omega
theorem drop_at {ks : List Nat} {k x : Nat} (h : ks[k]? = some x) : ks.drop k = x :: ks.drop (k + 1) := by
  obtain ⟨hl, hx⟩ := List.getElem?_eq_some_iff.1 h
  rw [List.drop_eq_getElem_cons hl, hx]
theorem hop_cells {W : World} {b : Nat} {v0 v1 v2 v3 v4 v5 v6 : Value} {T : TypeId} (h : W.heap[b]? = some (.cells #[v0, v1, v2, v3, v4, v5, v6] T (0, 0))) :
    W.cell? ⟨b, 0, none⟩ = some v0 ∧ W.cell? ⟨b, 1, none⟩ = some v1 ∧ W.cell? ⟨b, 2, none⟩ = some v2 ∧ W.cell? ⟨b, 3, none⟩ = some v3 ∧ W.cell? ⟨b, 4, none⟩ = some v4 ∧ W.cell? ⟨b, 5, none⟩ = some v5 ∧ W.cell? ⟨b, 6, none⟩ = some v6 := by
  simp [World.cell?, h]
theorem sent_world (W0 : World) (u v : Obj) : (((W0.alloc u).alloc v).drew).heap.size = W0.heap.size + 2 ∧ (((W0.alloc u).alloc v).drew).heap[W0.heap.size]? = some u ∧ (((W0.alloc u).alloc v).drew).heap[W0.heap.size + 1]? = some v ∧ Below W0.heap.size W0 ((W0.alloc u).alloc v).drew := by
  refine ⟨by show ((W0.alloc u).alloc v).heap.size = _; simp, ?_, ?_, ((alloc_below W0 u).alloc (by simp) v).drew⟩
  · show ((W0.alloc u).alloc v).heap[W0.heap.size]? = some u
    rw [Below.heap_alloc _ _ _ (by simp)]
    exact World.alloc_heap_new W0 u
  · show ((W0.alloc u).alloc v).heap[W0.heap.size + 1]? = some v
    have := World.alloc_heap_new (W0.alloc u) v
    rwa [World.size_alloc] at this
theorem setCell_size (w : World) (a : Addr) (v : Value) : (w.setCell a v).heap.size = w.heap.size := by simp [World.setCell]
theorem rowB_set {W : World} {a : Option Addr} {c : Nat} {xs : List Nat} (h : RowB W a c xs) {p : Addr} {x : Int} (hp : W.cell? p = some (.int .i64 x)) (v : Value) : RowB (W.setCell p v) a c xs :=
  ⟨h.1, fun ad e j u hu => by
    have k := h.2 ad e j u hu
    have hne : p ≠ ad.add j := fun e2 => by
      rw [e2, k] at hp
      unfold byV at hu
      rw [List.getElem?_map] at hu
      cases hx : xs[j]? with
      | none => rw [hx] at hu; cases hu
      | some y => rw [hx] at hu; cases hu; cases hp
    rw [World.cell?_setCell_other (a := p) (b := ad.add j) (h := hne)]
    exact k⟩
end Go.Proofs.Ytkodhpjmmiapaaa

/- Merged: XAsk XHold XAns XAns2 XWShk. -/
import Derived.Test.YtkodhpjmmiapaaaSms
import Derived.Test.YtkodhpjmmiapaaaSqA
import Derived.Deep.RegionHeld
import Derived.StillTail
import Derived.Deep.RegionHeld3
import Derived.Deep.RegionWith
/- The contract of (*asked).shared. -/
namespace Go.Proofs.Ytkodhpjmmiapaaa
open Go.RowKit
set_option linter.unusedVariables false
set_option linter.unusedSimpArgs false
/-- the block of what is asked: a group, and nothing wrong -/
structure AskAt (W : World) (b : Nat) (P Q G H : Int) : Prop where
  lt : b < W.heap.size
  c0 : W.cell? ⟨b, 0, none⟩ = some (.int .i64 P)
  c1 : W.cell? ⟨b, 1, none⟩ = some (.int .i64 Q)
  c2 : W.cell? ⟨b, 2, none⟩ = some (.int .i64 G)
  c3 : W.cell? ⟨b, 3, none⟩ = some (.int .i64 H)
  c4 : W.cell? ⟨b, 4, none⟩ = some (.int .i64 0)
  fr : W.frozen? ⟨b, 4, none⟩ = false
/-- all but one block is kept -/
def But (b B : Nat) (w w' : World) : Prop := Below B w w' ∧ w.heap.size ≤ w'.heap.size ∧ ∀ a : Addr, a.block < w.heap.size → a.block ≠ b → w'.cell? a = w.cell? a
set_option maxRecDepth 20000 in
set_option maxHeartbeats 1600000 in
theorem asked_shared (P Q G H k t : Int) (b B : Nat) (w : World) (ha : AskAt w b P Q G H) (hB : B ≤ b) (hs : shE P Q G H k t = 0) :
    Calls Try.prog 35 #[.pointer (some ⟨b, 0, none⟩), .int .i64 k, .int .i64 t] w fun e w' => e = .returned (.int .i64 (pw t k P)) ∧ AskAt w' b P Q G H ∧ But b B w w' := by
  obtain ⟨hb, a0, a1, a2, a3, a4, a5⟩ := ha
  have HS := Lib.hid hs
  clear hs
  go_enter Try.func35, Try.ntmps35
  go_wp2_with fail
  refine (group_Shared P Q G H k t _ HS.out).mono ?_
  rintro e w1 ⟨rfl, hb1⟩
  have z1 := hb1.size
  have b0 := kept hb1 a0 hb
  have b1 := kept hb1 a1 hb
  have b2 := kept hb1 a2 hb
  have b3 := kept hb1 a3 hb
  have b4 := kept hb1 a4 hb
  have b5 := frozK hb1 hb a5
  go_wp2
  go_ret
  have e0 : ∀ j : Nat, j ≠ 4 → (w1.setCell ⟨b, 4, none⟩ (.int .i64 0)).cell? ⟨b, j, none⟩ = w1.cell? ⟨b, j, none⟩ := fun j hj => by
    have hne : (⟨b, 4, none⟩ : Addr) ≠ ⟨b, j, none⟩ := fun e => hj (by injection e with _ e2 _; exact e2.symm)
    rw [World.cell?_setCell_other (a := (⟨b, 4, none⟩ : Addr)) (b := (⟨b, j, none⟩ : Addr)) (h := hne)]
  refine ⟨rfl, ⟨by simp; omega, (e0 0 (by omega)).trans b0, (e0 1 (by omega)).trans b1, (e0 2 (by omega)).trans b2, (e0 3 (by omega)).trans b3, World.cell?_setCell_same' _ _ _ (by simp [b4]), by rw [World.frozen?_setCell]; exact b5⟩, ?_, by simp; omega, fun a ha hne => ?_⟩
  · exact (hb1.mono (by omega)).setCell (p := ⟨b, 4, none⟩) hB _
  · rw [World.cell?_setCell_far _ _ _ _ (by exact fun e => hne e.symm)]
    exact hb1.cell ha
end Go.Proofs.Ytkodhpjmmiapaaa

/- A region that draws: S is kept behind the operations that D names; one that reads by S may be taken first where every other operation waits for it. -/
namespace Go.Proofs.Ytkodhpjmmiapaaa
section
variable {P : Program} {ops : Array Oper} {Q : Exit → Act → World → Prop} {md : Region.Mode} {S : World → Prop} {D : Nat → Bool}
def wpD (P : Program) (md : Region.Mode) (ops : Array Oper) (Q : Exit → Act → World → Prop) (S : World → Prop) (D : Nat → Bool) : Nat → Array Bool → Act → World → Prop
  | 0, listed, a, w => Region.ready md ops listed = [] ∧ Q .normal a w
  | fuel + 1, listed, a, w =>
    (Region.ready md ops listed = [] → Q .normal a w) ∧
    ∀ i ∈ Region.ready md ops listed, wpOp P ops Q i (fun a' w' => (D i = true → S w → S w') ∧ wpD P md ops Q S D fuel (listed.setIfInBounds i true) a' w') a w
theorem wpAny_of_D : ∀ (fuel : Nat) (listed : Array Bool) (a : Act) (w : World), wpD P md ops Q S D fuel listed a w → wpAny P md ops Q fuel listed a w
  | 0, _, _, _, h => h
  | fuel + 1, _, _, _, h => ⟨h.1, fun i hi => wpOp_mono (fun a' w' h' => wpAny_of_D fuel _ a' w' h'.2) (h.2 i hi)⟩
/-- what is listed, all that it waits for is listed -/
def ClosedL (md : Region.Mode) (ops : Array Oper) (listed : Array Bool) : Prop :=
  ∀ j oj, ops[j]? = some oj → listed.getD j false = true → ∀ e ∈ oj.after, Region.binds md e = true → listed.getD e.on false = true
theorem ClosedL.set {i : Nat} {listed : Array Bool} (h : ClosedL md ops listed) (hi : i ∈ Region.ready md ops listed) : ClosedL md ops (listed.setIfInBounds i true) := by
  obtain ⟨_, oi, hoi, hall⟩ := mem_ready.1 hi
  intro j oj hj hl e he hb
  by_cases hij : i = j
  · subst hij
    have : oj = oi := Option.some.inj (hj.symm.trans hoi)
    subst this
    exact getD_set_true (hall e he hb)
  · rw [getD_set_ne false hij] at hl
    exact getD_set_true (h j oj hj hl e he hb)
/-- does j wait for i, by however many steps -/
def reachB (md : Region.Mode) (ops : Array Oper) : Nat → Nat → Nat → Bool
  | 0, _, _ => false
  | f + 1, j, i => match ops[j]? with
    | some oj => oj.after.any fun e => Region.binds md e && (e.on == i || reachB md ops f e.on i)
    | none => false
theorem reach_listed {i : Nat} {listed : Array Bool} (hc : ClosedL md ops listed) : ∀ (f j : Nat), listed.getD j false = true → reachB md ops f j i = true → listed.getD i false = true := by
  intro f
  induction f with
  | zero => intro j _ h; cases h
  | succ f ih =>
    intro j hj h
    unfold reachB at h
    split at h
    · rename_i oj hoj
      obtain ⟨e, he, hb⟩ := Array.any_eq_true'.1 h
      simp only [Bool.and_eq_true, Bool.or_eq_true, beq_iff_eq] at hb
      have hl := hc j oj hoj hj e he hb.1
      rcases hb.2 with rfl | h2
      · exact hl
      · exact ih e.on hl h2
    · cases h
theorem reach_ready {i j f : Nat} {listed : Array Bool} (hc : ClosedL md ops listed) (hj : j ∈ Region.ready md ops listed) (h : reachB md ops f j i = true) : listed.getD i false = true := by
  obtain ⟨_, oj, hoj, hall⟩ := mem_ready.1 hj
  cases f with
  | zero => cases h
  | succ f =>
    unfold reachB at h
    rw [hoj] at h
    obtain ⟨e, he, hb⟩ := Array.any_eq_true'.1 h
    simp only [Bool.and_eq_true, Bool.or_eq_true, beq_iff_eq] at hb
    have hl := hall e he hb.1
    rcases hb.2 with rfl | h2
    · exact hl
    · exact reach_listed hc f e.on hl h2
theorem wpD_first {S' : World → Prop} {i : Nat} {oi : Oper} {v : Value} (hi : ops[i]? = some oi) (hsel : ∀ (j : Nat) (o : Oper) cs b, ops[j]? = some o → o.op ≠ .select cs b)
    (hQ : ∀ c a w, Q (.panic c) (a.put oi.dst v) w → Q (.panic c) a w)
    (hD : (∀ w, S' w) ∨ ((∀ w, S w → S' w) ∧ ∀ j, j < ops.size → D j = false → reachB md ops ops.size j i = true)) :
    ∀ (fuel : Nat) (listed : Array Bool) (a : Act) (w : World), ClosedL md ops listed →
      (∀ j oj, ops[j]? = some oj → j ≠ i → listed.getD j true = false → (∀ e ∈ oj.after, Region.binds md e = true → e.on ≠ i) → oi.apart ops oj = true) →
      i ∈ Region.ready md ops listed → YieldsIf P ops S' oi v a → ((∀ w, S' w) ∨ S w) →
      wpD P md ops Q S D fuel (listed.setIfInBounds i true) (a.put oi.dst v) w → wpD P md ops Q S D (fuel + 1) listed a w := by
  have hSS : ∀ w, ((∀ w, S' w) ∨ S w) → S' w := fun w h => by
    rcases h with h | h
    · exact h w
    · rcases hD with h2 | h2
      · exact h2 w
      · exact h2.1 w h
  intro fuel
  induction fuel with
  | zero =>
    intro listed a w inv _ hr hy hS H
    refine ⟨fun h => (by rw [h] at hr; cases hr), fun j hj => ?_⟩
    by_cases hji : j = i
    · subst hji; exact hy.wpOp hi (hSS w hS) ⟨fun _ h => h, H⟩
    · have := ready_mono hj hji
      rw [H.1] at this
      cases this
  | succ fuel ih =>
    intro listed a w inv hfree hr hy hS H
    refine ⟨fun h => (by rw [h] at hr; cases hr), fun j hj => ?_⟩
    by_cases hji : j = i
    · subst hji; exact hy.wpOp hi (hSS w hS) ⟨fun _ h => h, H⟩
    · have h1 := H.2 j (ready_mono hj hji)
      obtain ⟨hjun, oj, hoj, hall⟩ := mem_ready.1 hj
      have hiun := (mem_ready.1 hr).1
      have hnot : ∀ e ∈ oj.after, Region.binds md e = true → e.on ≠ i := fun e he hb heq => by
        have h1 := hall e he hb
        rw [heq, getD_both hiun] at h1
        cases h1
      have h2 := wpOp_putIf hoj (hfree j oj hoj hji hjun hnot) (fun cs b => hsel i oi cs b hi) (fun cs b => hsel j oj cs b hoj) hQ hy h1
      have hfree' : ∀ k ok, ops[k]? = some ok → k ≠ i → (listed.setIfInBounds j true).getD k true = false →
          (∀ e ∈ ok.after, Region.binds md e = true → e.on ≠ i) → oi.apart ops ok = true := fun k ok hk hki hun hno => by
        refine hfree k ok hk hki ?_ hno
        by_cases hjk : j = k
        · subst hjk; exact hjun
        · rw [getD_set_ne true hjk] at hun; exact hun
      have hjlt : j < ops.size := (Array.getElem?_eq_some_iff.1 hoj).1
      have hDj : (∀ w, S' w) ∨ D j = true := by
        rcases hD with h | ⟨h, h'⟩
        · exact .inl h
        · right
          cases hd : D j with
          | true => rfl
          | false =>
            have := reach_ready inv hj (h' j hjlt hd)
            rw [getD_both hiun] at this
            cases this
      refine wpOp_mono (fun a' w' h3 => ⟨h3.2.1, ih (listed.setIfInBounds j true) a' w' (inv.set hj) hfree' (ready_mono hr (Ne.symm hji)) h3.1 ?_ ?_⟩) h2
      · rcases hDj with h | hd
        · exact .inl h
        · rcases hS with h | h
          · exact .inl h
          · exact .inr (h3.2.1 hd h)
      · rw [Array.setIfInBounds_comm _ _ hji]
        exact h3.2.2
/-- the same, with what the places listed so far keep -/
def WD (P : Program) (md : Region.Mode) (ops : Array Oper) (Q : Exit → Act → World → Prop) (S : World → Prop) (D : Nat → Bool) (fuel : Nat) (listed : Array Bool) (a : Act) (w : World) : Prop :=
  ClosedL md ops listed → wpD P md ops Q S D fuel listed a w
/-- an operation that yields in whatever world is taken first -/
theorem WD_free {i : Nat} {oi : Oper} {v : Value} {fuel : Nat} {listed : Array Bool} {a : Act} {w : World} (hi : ops[i]? = some oi)
    (hB : (Region.noSelect ops && Region.free md ops listed i && (Region.ready md ops listed).contains i) = true)
    (hQ : ∀ c a w, Q (.panic c) (a.put oi.dst v) w → Q (.panic c) a w) (hy : YieldsIf P ops (fun _ => True) oi v a)
    (h : WD P md ops Q S D fuel (listed.setIfInBounds i true) (a.put oi.dst v) w) : WD P md ops Q S D (fuel + 1) listed a w := fun inv => by
  simp only [Bool.and_eq_true] at hB
  obtain ⟨⟨h1, h6⟩, h7⟩ := hB
  exact wpD_first (S' := fun _ => True) hi (Region.noSelect_spec h1) hQ (.inl fun _ => trivial) fuel listed a w inv (Region.free_spec hi h6) (by simpa using h7) hy (.inl fun _ => trivial) (h (inv.set (by simpa using h7)))
/-- one that reads by S is taken first -/
theorem WD_take {i : Nat} {oi : Oper} {v : Value} {fuel : Nat} {listed : Array Bool} {a : Act} {w : World} (hi : ops[i]? = some oi)
    (hB : (Region.noSelect ops && Region.free md ops listed i && (Region.ready md ops listed).contains i && (List.range ops.size).all fun j => D j || reachB md ops ops.size j i) = true)
    (hQ : ∀ c a w, Q (.panic c) (a.put oi.dst v) w → Q (.panic c) a w) (hy : YieldsIf P ops S oi v a) (hS : S w)
    (h : WD P md ops Q S D fuel (listed.setIfInBounds i true) (a.put oi.dst v) w) : WD P md ops Q S D (fuel + 1) listed a w := fun inv => by
  simp only [Bool.and_eq_true] at hB
  obtain ⟨⟨⟨h1, h6⟩, h7⟩, h8⟩ := hB
  refine wpD_first (S' := S) hi (Region.noSelect_spec h1) hQ (.inr ⟨fun _ h => h, fun j hj hd => ?_⟩) fuel listed a w inv (Region.free_spec hi h6) (by simpa using h7) hy (.inr hS) (h (inv.set (by simpa using h7)))
  have := List.all_eq_true.1 h8 j (List.mem_range.2 hj)
  rw [hd, Bool.false_or] at this
  exact this
/-- the only one that may come up comes up -/
theorem WD_step {i : Nat} {o : Oper} {fuel : Nat} {listed : Array Bool} {a : Act} {w : World} (ho : ops[i]? = some o)
    (hB : decide (Region.ready md ops listed = [i]) = true)
    (h : ∀ K' : Act → World → Prop, Shut (∀ a w', (D i = true → S w → S w') → WD P md ops Q S D fuel (listed.setIfInBounds i true) a w' → K' a w') → if Region.wanted o (yielded ops a.tmps) = true then Oper.wp P o a w K' Q else K' (a.put o.dst undef) w) :
    WD P md ops Q S D (fuel + 1) listed a w := fun inv => by
  simp only [decide_eq_true_eq] at hB
  refine ⟨fun h0 => (by rw [hB] at h0; cases h0), fun j hj => ?_⟩
  have hj' : j = i := by rw [hB] at hj; simpa using hj
  subst hj'
  exact wpOp_step ho (fun K' hK => h K' (fun a w' hS hW => hK a w' ⟨hS, hW (inv.set hj)⟩))
theorem WD_done {listed : Array Bool} {a : Act} {w : World} (hr : (Region.ready md ops listed).isEmpty = true) (h : Q .normal a w) : ∀ fuel, WD P md ops Q S D fuel listed a w
  | 0 => fun _ => ⟨by simpa using hr, h⟩
  | _ + 1 => fun _ => ⟨fun _ => h, by rw [show Region.ready md ops listed = [] by simpa using hr]; simp⟩
/-- the beginning -/
theorem wp_region_D {id : Nat} {a : Act} {w : World} (D : Nat → Bool) (hm : P.follows .mixedOrders = true) (hS : S w.drew)
    (h : S w.drew → WD P .any ops Q S D ops.size (Array.replicate ops.size false) a w.drew) : (Code.region id ops true).wp P Q a w :=
  wp_region_any hm (wpAny_of_D _ _ _ _ (h hS fun j oj _ hl => by rw [getD_replicate_false] at hl; cases hl))
end
end Go.Proofs.Ytkodhpjmmiapaaa

/- The contracts of shake.Answer and shake.Finish where all is good. -/
namespace Go.Proofs.Ytkodhpjmmiapaaa
open Go.RowKit
set_option linter.unusedVariables false
set_option linter.unusedSimpArgs false
/-- the text that both sums are of -/
def shkN (t e s x y : Int) : List Nat := txtN [t.toNat, e.toNat, s.toNat, x.toNat, y.toNat]
theorem shkN_len (t e s x y : Int) : (shkN t e s x y).length = 20 := by simp [shkN, txtN_len]
theorem txtN_lt (zs : List Nat) : ∀ x ∈ txtN zs, x < 256 := fun x hx => by
  obtain ⟨z, _, hz⟩ := List.mem_flatMap.1 hx
  exact litN_lt _ _ x hz
theorem AskAt.drew {W : World} {b : Nat} {P Q G H : Int} (h : AskAt W b P Q G H) : AskAt W.drew b P Q G H := ⟨h.lt, h.c0, h.c1, h.c2, h.c3, h.c4, h.fr⟩
theorem AskAt.cell4 {W : World} {b : Nat} {P Q G H : Int} (h : AskAt W b P Q G H) : W.cell? ⟨b, 4, none⟩ = some (.int .i64 0) := h.c4
/-- the text of five numbers, and its sums -/
theorem shake_five (t e s x y : Int) (w : World) (h1 : 0 ≤ t ∧ t ≤ 1048576) (h2 : 0 ≤ e ∧ e ≤ 1048576) (h3 : 0 ≤ s ∧ s ≤ 1048576) (h4 : 0 ≤ x ∧ x ≤ 1048576) (h5 : 0 ≤ y ∧ y ≤ 1048576) (B : Nat)
    (hc : ∀ (j : Nat) v, [t, e, s, x, y][j]? = some v → w.cell? ⟨B, j, none⟩ = some (.int .i64 v)) (hB : B < w.heap.size) :
    Calls Try.prog 37 #[.slice (some ⟨B, 0, none⟩) 5 5] w fun r w' => ∃ (a : Option Addr) (c : Nat), r = .returned (.slice a 20 c) ∧ Below w.heap.size w w' ∧ RowB w' a c (shkN t e s x y) := by
  have hmap : ([t.toNat, e.toNat, s.toNat, x.toNat, y.toNat].map Int.ofNat) = [t, e, s, x, y] := by
    simp [Int.toNat_of_nonneg h1.1, Int.toNat_of_nonneg h2.1, Int.toNat_of_nonneg h3.1, Int.toNat_of_nonneg h4.1, Int.toNat_of_nonneg h5.1]
  refine (shake_text (some ⟨B, 0, none⟩) 5 [t.toNat, e.toNat, s.toNat, x.toNat, y.toNat] w ?_ (by simp) (fun z hz => ?_)).mono ?_
  · rw [hmap]
    intro j v hv
    exact ⟨B, 0, rfl, hB, by rw [Nat.zero_add]; exact hc j v hv⟩
  · simp at hz; omega
  · rintro r w' ⟨v, rfl, hb, hr⟩
    have hl : (byV (txtN [t.toNat, e.toNat, s.toNat, x.toNat, y.toNat])).length = 20 := by rw [byV_len, txtN_len]; rfl
    obtain ⟨a, c, rfl, h2, _⟩ := own_rowB (ys := shkN t e s x y) (by rw [shkN_len]; exact hr)
    exact ⟨a, c, by rw [shkN_len], hb, h2⟩
set_option maxRecDepth 100000 in
set_option maxHeartbeats 6400000 in
theorem shake_Answer (P Q G H s k t : Int) (w : World) (p1 : 2 ≤ P) (p2 : P ≤ 1048576) (ht : 0 ≤ t ∧ t ≤ 1048576) (hs1 : shE P Q G H s G = 0) (hs2 : shE P Q G H k G = 0) (hs3 : shE P Q G H s t = 0) (hs4 : shE P Q G H k t = 0) :
    Calls Try.prog 21 #[.agg #[.int .i64 P, .int .i64 Q, .int .i64 G, .int .i64 H], .int .i64 s, .int .i64 k, .int .i64 t] w fun e w' => e = .returned (.tuple #[.agg #[.int .i64 (pw G k P), .int .i64 (sumN (2 :: shkN t (pw G k P) (pw G s P) (pw t s P) (pw t k P))), .int .i64 (sumN (1 :: shkN t (pw G k P) (pw G s P) (pw t s P) (pw t k P)))], .int .i64 0]) ∧ Below w.heap.size w w' := by
  have H1 := Lib.hid hs1
  have H2 := Lib.hid hs2
  have H3 := Lib.hid hs3
  have H4 := Lib.hid hs4
  clear hs1 hs2 hs3 hs4
  go_enter Try.func21, Try.ntmps21
  go_wp2_with fail
  obtain ⟨W0, hW0⟩ : ∃ W, W = ((w.alloc (.cells #[.int .i64 P, .int .i64 Q, .int .i64 G, .int .i64 H] 23)).alloc (.cells #[.int .i64 0, .int .i64 0, .int .i64 0] 57)).alloc (.cells #[.int .i64 P, .int .i64 Q, .int .i64 G, .int .i64 H, .int .i64 0] 81) := ⟨_, rfl⟩
  obtain ⟨b, hb⟩ : ∃ b, b = w.heap.size + 1 + 1 := ⟨_, rfl⟩
  have hA0 : AskAt W0 b P Q G H := by
    rw [hW0, hb]; exact ⟨by simp, by simp [go_sem], by simp [go_sem], by simp [go_sem], by simp [go_sem], by simp [go_sem], by simp [go_sem]⟩
  have g2 : W0.cell? ⟨w.heap.size, 2, none⟩ = some (.int .i64 G) := by rw [hW0]; simp [go_sem]
  have r0 : W0.cell? ⟨w.heap.size + 1, 0, none⟩ = some (.int .i64 0) := by rw [hW0]; simp [go_sem]
  have r1 : W0.cell? ⟨w.heap.size + 1, 1, none⟩ = some (.int .i64 0) := by rw [hW0]; simp [go_sem]
  have r2 : W0.cell? ⟨w.heap.size + 1, 2, none⟩ = some (.int .i64 0) := by rw [hW0]; simp [go_sem]
  have s0 : W0.frozen? ⟨w.heap.size + 1, 0, none⟩ = false := by rw [hW0]; simp [go_sem]
  have s1 : W0.frozen? ⟨w.heap.size + 1, 1, none⟩ = false := by rw [hW0]; simp [go_sem]
  have s2 : W0.frozen? ⟨w.heap.size + 1, 2, none⟩ = false := by rw [hW0]; simp [go_sem]
  have hbw : Below w.heap.size w W0 := by rw [hW0]; exact (((Below.refl _ _).alloc (Nat.le_refl _) _).alloc (by simp) _).alloc (by simp <;> omega) _
  have hbe : w.heap.size + 1 < b := by omega
  rw [← hW0, ← hb]
  clear hW0 hb
  refine (asked_shared P Q G H s G b b _ hA0 (Nat.le_refl _) H1.out).mono ?_
  rintro e w1 ⟨rfl, hA1, hB1⟩
  have G1 := (hB1.1.cell (p := ⟨w.heap.size, 2, none⟩) (by simp; omega)).trans g2
  have hK1 : Below b W0 w1 := hB1.1
  have S1 : (AskAt w1.drew b P Q G H ∧ w1.drew.cell? ⟨w.heap.size, 2, none⟩ = some (.int .i64 G)) := ⟨hA1.drew, G1⟩
  replace hK1 : Below b W0 w1.drew := hK1.drew
  clear hA0 hB1
  go_wp2_with fail
  refine wp_region_D (S := (fun w' : World => AskAt w' b P Q G H ∧ w'.cell? ⟨w.heap.size, 2, none⟩ = some (.int .i64 G))) (fun _ => true) (by kernel_rfl) S1 (fun hHeld => ?_)
  simp only [List.size_toArray, List.length_cons, List.length_nil, Nat.reduceAdd, Array.replicate_succ, Array.replicate_zero, List.push_toArray, List.append_toArray, List.nil_append, List.cons_append]
  refine WD_free (i := 0) (oi := _) (v := ?_) rfl (by kernel_rfl) (fun _ _ _ h => h) (Or.inl ⟨by rfl, ?_⟩) ?_
  rotate_left
  · (intro W hS; (try dsimp only at hS); clear hS; go_simp; with_reducible rfl)
  try simp only [Act.put, List.getElem_toArray, List.getElem_cons_succ, List.getElem_cons_zero, List.setIfInBounds_toArray, List.set_cons_zero, List.set_cons_succ]
  refine WD_free (i := 1) (oi := _) (v := ?_) rfl (by kernel_rfl) (fun _ _ _ h => h) (Or.inl ⟨by rfl, ?_⟩) ?_
  rotate_left
  · (intro W hS; (try dsimp only at hS); clear hS; go_simp; with_reducible rfl)
  try simp only [Act.put, List.getElem_toArray, List.getElem_cons_succ, List.getElem_cons_zero, List.setIfInBounds_toArray, List.set_cons_zero, List.set_cons_succ]
  refine WD_free (i := 2) (oi := _) (v := ?_) rfl (by kernel_rfl) (fun _ _ _ h => h) (Or.inl ⟨by rfl, ?_⟩) ?_
  rotate_left
  · (intro W hS; (try dsimp only at hS); clear hS; go_simp; with_reducible rfl)
  try simp only [Act.put, List.getElem_toArray, List.getElem_cons_succ, List.getElem_cons_zero, List.setIfInBounds_toArray, List.set_cons_zero, List.set_cons_succ]
  refine WD_take (i := 3) (oi := _) (v := ?_) rfl (by kernel_rfl) (fun _ _ _ h => h) (Or.inl ⟨by rfl, ?_⟩) (by assumption) ?_
  rotate_left
  · (intro W hS; (try dsimp only at hS); have hSw := hS.2; clear hS; go_simp; with_reducible rfl)
  try simp only [Act.put, List.getElem_toArray, List.getElem_cons_succ, List.getElem_cons_zero, List.setIfInBounds_toArray, List.set_cons_zero, List.set_cons_succ]
  refine WD_free (i := 5) (oi := _) (v := ?_) rfl (by kernel_rfl) (fun _ _ _ h => h) (Or.inl ⟨by rfl, ?_⟩) ?_
  rotate_left
  · (intro W hS; (try dsimp only at hS); clear hS; go_simp; with_reducible rfl)
  try simp only [Act.put, List.getElem_toArray, List.getElem_cons_succ, List.getElem_cons_zero, List.setIfInBounds_toArray, List.set_cons_zero, List.set_cons_succ]
  refine WD_free (i := 6) (oi := _) (v := ?_) rfl (by kernel_rfl) (fun _ _ _ h => h) (Or.inl ⟨by rfl, ?_⟩) ?_
  rotate_left
  · (intro W hS; (try dsimp only at hS); clear hS; go_simp; with_reducible rfl)
  try simp only [Act.put, List.getElem_toArray, List.getElem_cons_succ, List.getElem_cons_zero, List.setIfInBounds_toArray, List.set_cons_zero, List.set_cons_succ]
  refine WD_free (i := 7) (oi := _) (v := ?_) rfl (by kernel_rfl) (fun _ _ _ h => h) (Or.inl ⟨by rfl, ?_⟩) ?_
  rotate_left
  · (intro W hS; (try dsimp only at hS); clear hS; go_simp; with_reducible rfl)
  try simp only [Act.put, List.getElem_toArray, List.getElem_cons_succ, List.getElem_cons_zero, List.setIfInBounds_toArray, List.set_cons_zero, List.set_cons_succ]
  refine WD_take (i := 8) (oi := _) (v := ?_) rfl (by kernel_rfl) (fun _ _ _ h => h) (Or.inl ⟨by rfl, ?_⟩) (by assumption) ?_
  rotate_left
  · (intro W hS; (try dsimp only at hS); have hSw := hS.2; clear hS; go_simp; with_reducible rfl)
  try simp only [Act.put, List.getElem_toArray, List.getElem_cons_succ, List.getElem_cons_zero, List.setIfInBounds_toArray, List.set_cons_zero, List.set_cons_succ]
  refine WD_free (i := 10) (oi := _) (v := ?_) rfl (by kernel_rfl) (fun _ _ _ h => h) (Or.inl ⟨by rfl, ?_⟩) ?_
  rotate_left
  · (intro W hS; (try dsimp only at hS); clear hS; go_simp; with_reducible rfl)
  try simp only [Act.put, List.getElem_toArray, List.getElem_cons_succ, List.getElem_cons_zero, List.setIfInBounds_toArray, List.set_cons_zero, List.set_cons_succ]
  refine WD_free (i := 11) (oi := _) (v := ?_) rfl (by kernel_rfl) (fun _ _ _ h => h) (Or.inl ⟨by rfl, ?_⟩) ?_
  rotate_left
  · (intro W hS; (try dsimp only at hS); clear hS; go_simp; with_reducible rfl)
  try simp only [Act.put, List.getElem_toArray, List.getElem_cons_succ, List.getElem_cons_zero, List.setIfInBounds_toArray, List.set_cons_zero, List.set_cons_succ]
  refine WD_free (i := 12) (oi := _) (v := ?_) rfl (by kernel_rfl) (fun _ _ _ h => h) (Or.inl ⟨by rfl, ?_⟩) ?_
  rotate_left
  · (intro W hS; (try dsimp only at hS); clear hS; go_simp; with_reducible rfl)
  try simp only [Act.put, List.getElem_toArray, List.getElem_cons_succ, List.getElem_cons_zero, List.setIfInBounds_toArray, List.set_cons_zero, List.set_cons_succ]
  refine WD_free (i := 14) (oi := _) (v := ?_) rfl (by kernel_rfl) (fun _ _ _ h => h) (Or.inl ⟨by rfl, ?_⟩) ?_
  rotate_left
  · (intro W hS; (try dsimp only at hS); clear hS; go_simp; with_reducible rfl)
  try simp only [Act.put, List.getElem_toArray, List.getElem_cons_succ, List.getElem_cons_zero, List.setIfInBounds_toArray, List.set_cons_zero, List.set_cons_succ]
  refine WD_free (i := 15) (oi := _) (v := ?_) rfl (by kernel_rfl) (fun _ _ _ h => h) (Or.inl ⟨by rfl, ?_⟩) ?_
  rotate_left
  · (intro W hS; (try dsimp only at hS); clear hS; go_simp; with_reducible rfl)
  try simp only [Act.put, List.getElem_toArray, List.getElem_cons_succ, List.getElem_cons_zero, List.setIfInBounds_toArray, List.set_cons_zero, List.set_cons_succ]
  refine WD_free (i := 16) (oi := _) (v := ?_) rfl (by kernel_rfl) (fun _ _ _ h => h) (Or.inl ⟨by rfl, ?_⟩) ?_
  rotate_left
  · (intro W hS; (try dsimp only at hS); clear hS; go_simp; with_reducible rfl)
  try simp only [Act.put, List.getElem_toArray, List.getElem_cons_succ, List.getElem_cons_zero, List.setIfInBounds_toArray, List.set_cons_zero, List.set_cons_succ]
  refine WD_step (i := 4) (o := _) rfl (by kernel_rfl) (fun K hK => ?_)
  go_simp
  go_at_call 35
  refine (asked_shared P Q G H k G b b _ hHeld.1 (Nat.le_refl _) H2.out).mono ?_
  rintro e w2 ⟨rfl, hA2, hB2⟩
  replace hK1 := hK1.trans hB2.1
  go_wp2_with fail
  replace hHeld := (⟨hA2, (hB2.1.cell (p := ⟨w.heap.size, 2, none⟩) (by simp; omega)).trans hHeld.2⟩ : (fun w' : World => AskAt w' b P Q G H ∧ w'.cell? ⟨w.heap.size, 2, none⟩ = some (.int .i64 G)) w2)
  refine hK.out _ _ (fun _ _ => hHeld) ?_
  clear hK K
  try simp only [Act.put, List.getElem_toArray, List.getElem_cons_succ, List.getElem_cons_zero, List.setIfInBounds_toArray, List.set_cons_zero, List.set_cons_succ]
  try dsimp only at hHeld
  refine WD_step (i := 9) (o := _) rfl (by kernel_rfl) (fun K hK => ?_)
  go_simp
  go_at_call 35
  refine (asked_shared P Q G H s G b b _ hHeld.1 (Nat.le_refl _) H1.out).mono ?_
  rintro e w3 ⟨rfl, hA3, hB3⟩
  replace hK1 := hK1.trans hB3.1
  go_wp2_with fail
  replace hHeld := (⟨hA3, (hB3.1.cell (p := ⟨w.heap.size, 2, none⟩) (by simp; omega)).trans hHeld.2⟩ : (fun w' : World => AskAt w' b P Q G H ∧ w'.cell? ⟨w.heap.size, 2, none⟩ = some (.int .i64 G)) w3)
  refine hK.out _ _ (fun _ _ => hHeld) ?_
  clear hK K
  try simp only [Act.put, List.getElem_toArray, List.getElem_cons_succ, List.getElem_cons_zero, List.setIfInBounds_toArray, List.set_cons_zero, List.set_cons_succ]
  try dsimp only at hHeld
  refine WD_step (i := 13) (o := _) rfl (by kernel_rfl) (fun K hK => ?_)
  go_simp
  go_at_call 35
  refine (asked_shared P Q G H s t b b _ hHeld.1 (Nat.le_refl _) H3.out).mono ?_
  rintro e w4 ⟨rfl, hA4, hB4⟩
  replace hK1 := hK1.trans hB4.1
  go_wp2_with fail
  replace hHeld := (⟨hA4, (hB4.1.cell (p := ⟨w.heap.size, 2, none⟩) (by simp; omega)).trans hHeld.2⟩ : (fun w' : World => AskAt w' b P Q G H ∧ w'.cell? ⟨w.heap.size, 2, none⟩ = some (.int .i64 G)) w4)
  refine hK.out _ _ (fun _ _ => hHeld) ?_
  clear hK K
  try simp only [Act.put, List.getElem_toArray, List.getElem_cons_succ, List.getElem_cons_zero, List.setIfInBounds_toArray, List.set_cons_zero, List.set_cons_succ]
  try dsimp only at hHeld
  refine WD_step (i := 17) (o := _) rfl (by kernel_rfl) (fun K hK => ?_)
  go_simp
  go_at_call 35
  refine (asked_shared P Q G H k t b b _ hHeld.1 (Nat.le_refl _) H4.out).mono ?_
  rintro e w5 ⟨rfl, hA5, hB5⟩
  replace hK1 := hK1.trans hB5.1
  go_wp2_with fail
  replace hHeld := (⟨hA5, (hB5.1.cell (p := ⟨w.heap.size, 2, none⟩) (by simp; omega)).trans hHeld.2⟩ : (fun w' : World => AskAt w' b P Q G H ∧ w'.cell? ⟨w.heap.size, 2, none⟩ = some (.int .i64 G)) w5)
  refine hK.out _ _ (fun _ _ => hHeld) ?_
  clear hK K
  try simp only [Act.put, List.getElem_toArray, List.getElem_cons_succ, List.getElem_cons_zero, List.setIfInBounds_toArray, List.set_cons_zero, List.set_cons_succ]
  try dsimp only at hHeld
  refine WD_free (i := 18) (oi := _) (v := ?_) rfl (by kernel_rfl) (fun _ _ _ h => h) (Or.inl ⟨by rfl, ?_⟩) ?_
  rotate_left
  · (intro W hS; (try dsimp only at hS); clear hS; go_simp; with_reducible rfl)
  try simp only [Act.put, List.getElem_toArray, List.getElem_cons_succ, List.getElem_cons_zero, List.setIfInBounds_toArray, List.set_cons_zero, List.set_cons_succ]
  refine WD_free (i := 19) (oi := _) (v := ?_) rfl (by kernel_rfl) (fun _ _ _ h => h) (Or.inl ⟨by rfl, ?_⟩) ?_
  rotate_left
  · (intro W hS; (try dsimp only at hS); clear hS; go_simp; with_reducible rfl)
  try simp only [Act.put, List.getElem_toArray, List.getElem_cons_succ, List.getElem_cons_zero, List.setIfInBounds_toArray, List.set_cons_zero, List.set_cons_succ]
  refine WD_free (i := 20) (oi := _) (v := ?_) rfl (by kernel_rfl) (fun _ _ _ h => h) (Or.inl ⟨by rfl, ?_⟩) ?_
  rotate_left
  · (intro W hS; (try dsimp only at hS); clear hS; go_simp; with_reducible rfl)
  try simp only [Act.put, List.getElem_toArray, List.getElem_cons_succ, List.getElem_cons_zero, List.setIfInBounds_toArray, List.set_cons_zero, List.set_cons_succ]
  refine WD_free (i := 21) (oi := _) (v := ?_) rfl (by kernel_rfl) (fun _ _ _ h => h) (Or.inl ⟨by rfl, ?_⟩) ?_
  rotate_left
  · (intro W hS; (try dsimp only at hS); clear hS; go_simp; with_reducible rfl)
  try simp only [Act.put, List.getElem_toArray, List.getElem_cons_succ, List.getElem_cons_zero, List.setIfInBounds_toArray, List.set_cons_zero, List.set_cons_succ]
  refine WD_done (by kernel_rfl) ?_ _
  have c4 := hHeld.1.c4
  have R0 := (hK1.cell (p := ⟨w.heap.size + 1, 0, none⟩) (by simp; omega)).trans r0
  have R1 := (hK1.cell (p := ⟨w.heap.size + 1, 1, none⟩) (by simp; omega)).trans r1
  have R2 := (hK1.cell (p := ⟨w.heap.size + 1, 2, none⟩) (by simp; omega)).trans r2
  have T0 := (hK1.frozen (p := ⟨w.heap.size + 1, 0, none⟩) (by simp; omega)).trans s0
  have T1 := (hK1.frozen (p := ⟨w.heap.size + 1, 1, none⟩) (by simp; omega)).trans s1
  have T2 := (hK1.frozen (p := ⟨w.heap.size + 1, 2, none⟩) (by simp; omega)).trans s2
  have hbt : Below w.heap.size w w5 := hbw.trans (hK1.mono (by omega))
  have z5 : b < w5.heap.size := hHeld.1.lt
  have q1 := pw_nonneg G k (show 1 ≤ P by omega)
  have q2 := pw_lt G k (show 1 ≤ P by omega)
  have q3 := pw_nonneg G s (show 1 ≤ P by omega)
  have q4 := pw_lt G s (show 1 ≤ P by omega)
  have q5 := pw_nonneg t s (show 1 ≤ P by omega)
  have q6 := pw_lt t s (show 1 ≤ P by omega)
  have q7 := pw_nonneg t k (show 1 ≤ P by omega)
  have q8 := pw_lt t k (show 1 ≤ P by omega)
  obtain ⟨E, hE⟩ : ∃ E, pw G k P = E := ⟨_, rfl⟩
  obtain ⟨S, hS⟩ : ∃ E, pw G s P = E := ⟨_, rfl⟩
  obtain ⟨X, hX⟩ : ∃ E, pw t s P = E := ⟨_, rfl⟩
  obtain ⟨Y, hY⟩ : ∃ E, pw t k P = E := ⟨_, rfl⟩
  rw [hE] at q1 q2 ⊢
  rw [hS] at q3 q4 ⊢
  rw [hX] at q5 q6 ⊢
  rw [hY] at q7 q8 ⊢
  have HE := Lib.hid hE
  have HS := Lib.hid hS
  have HX := Lib.hid hX
  have HY := Lib.hid hY
  clear hE hS hX hY hHeld S1 g2 r0 r1 r2 s0 s1 s2 hbw
  go_wp2_with fail
  refine (shake_five t E S X Y _ ht (by omega) (by omega) (by omega) (by omega) w5.heap.size (fun j v hv => ?_) (by simp)).mono ?_
  · rcases j with _ | _ | _ | _ | _ | j <;> simp at hv <;> subst hv <;> simp [go_sem]
  rintro e w6 ⟨a6, c6, rfl, hb6, hr6⟩
  have hb6' := below_two ((Below.refl w5.heap.size w5).alloc (Nat.le_refl _) _) hb6
  replace R0 := kept hb6' R0 (by omega)
  replace R1 := kept hb6' R1 (by omega)
  replace R2 := kept hb6' R2 (by omega)
  replace T0 := (hb6'.frozen (p := ⟨w.heap.size + 1, 0, none⟩) (by simp; omega)).trans T0
  replace T1 := (hb6'.frozen (p := ⟨w.heap.size + 1, 1, none⟩) (by simp; omega)).trans T1
  replace T2 := (hb6'.frozen (p := ⟨w.heap.size + 1, 2, none⟩) (by simp; omega)).trans T2
  replace hbt := below_two hbt hb6'
  have z6 := hb6'.size
  have HSm := shake_sums a6 c6 (shkN t E S X Y) w6 hr6 (by rw [shkN_len]; omega) (by rw [shkN_len]; omega) (txtN_lt _)
  rw [shkN_len] at HSm
  have HSm := Lib.hid HSm
  obtain ⟨K1, hK1'⟩ : ∃ K, sumN (1 :: shkN t E S X Y) = K := ⟨_, rfl⟩
  obtain ⟨K2, hK2'⟩ : ∃ K, sumN (2 :: shkN t E S X Y) = K := ⟨_, rfl⟩
  rw [hK1', hK2'] at HSm
  have HK1 := Lib.hid hK1'
  have HK2 := Lib.hid hK2'
  clear hK1' hK2' hb6 hr6 hb6'
  go_wp2_with fail
  refine HSm.out.mono ?_
  rintro e w7 ⟨rfl, hb7⟩
  have z7 := hb7.size
  replace R0 := kept hb7 R0 (by omega)
  replace R1 := kept hb7 R1 (by omega)
  replace R2 := kept hb7 R2 (by omega)
  replace T0 := (hb7.frozen (p := ⟨w.heap.size + 1, 0, none⟩) (by simp; omega)).trans T0
  replace T1 := (hb7.frozen (p := ⟨w.heap.size + 1, 1, none⟩) (by simp; omega)).trans T1
  replace T2 := (hb7.frozen (p := ⟨w.heap.size + 1, 2, none⟩) (by simp; omega)).trans T2
  replace hbt := below_two hbt hb7
  go_wp2
  refine bodyPost_ret (v := .tuple #[.agg #[.int .i64 E, .int .i64 K2, .int .i64 K1], .int .i64 0]) ?_ rfl ?_
  · simp [results, Try.f21, go_sem, R0, R1, R2]
  · obtain rfl := HK1.out
    obtain rfl := HK2.out
    obtain rfl := HE.out
    obtain rfl := HS.out
    obtain rfl := HX.out
    obtain rfl := HY.out
    exact ⟨rfl, ((hbt.setCell (by simp) _).setCell (by simp) _).setCell (by simp) _⟩
set_option maxRecDepth 100000 in
set_option maxHeartbeats 6400000 in
theorem shake_Finish (P Q G H k t rE rT rK : Int) (w : World) (p1 : 2 ≤ P) (p2 : P ≤ 1048576) (ht : 0 ≤ t ∧ t ≤ 1048576) (hr : 0 ≤ rE ∧ rE ≤ 1048576) (hs1 : shE P Q G H k G = 0) (hs2 : shE P Q G H k t = 0) (hs3 : shE P Q G H k rE = 0) :
    Calls Try.prog 23 #[.agg #[.int .i64 P, .int .i64 Q, .int .i64 G, .int .i64 H], .int .i64 k, .int .i64 t, .agg #[.int .i64 rE, .int .i64 rT, .int .i64 rK]] w fun e w' => ((((sumN (2 :: shkN (pw G k P) rE t (pw t k P) (pw rE k P)) : Nat) : Int) = rT → e = .returned (.tuple #[.int .i64 (sumN (1 :: shkN (pw G k P) rE t (pw t k P) (pw rE k P))), .int .i64 0])) ∧ (¬ ((sumN (2 :: shkN (pw G k P) rE t (pw t k P) (pw rE k P)) : Nat) : Int) = rT → e = .returned (.tuple #[.int .i64 0, .int .i64 8]))) ∧ Below w.heap.size w w' := by
  have H1 := Lib.hid hs1
  have H2 := Lib.hid hs2
  have H3 := Lib.hid hs3
  clear hs1 hs2 hs3
  obtain ⟨Q0, hQ0⟩ : ∃ Q0 : Ending → Prop, Q0 = fun e => ((((sumN (2 :: shkN (pw G k P) rE t (pw t k P) (pw rE k P)) : Nat) : Int) = rT → e = .returned (.tuple #[.int .i64 (sumN (1 :: shkN (pw G k P) rE t (pw t k P) (pw rE k P))), .int .i64 0])) ∧ (¬ ((sumN (2 :: shkN (pw G k P) rE t (pw t k P) (pw rE k P)) : Nat) : Int) = rT → e = .returned (.tuple #[.int .i64 0, .int .i64 8]))) := ⟨_, rfl⟩
  suffices h : Calls Try.prog 23 #[.agg #[.int .i64 P, .int .i64 Q, .int .i64 G, .int .i64 H], .int .i64 k, .int .i64 t, .agg #[.int .i64 rE, .int .i64 rT, .int .i64 rK]] w fun e w' => Q0 e ∧ Below w.heap.size w w' by
    refine h.mono fun e w' hh => ?_
    rw [hQ0] at hh
    exact hh
  have HQ0 := Lib.hid hQ0
  clear hQ0
  go_enter Try.func23, Try.ntmps23
  go_wp2_with fail
  obtain ⟨W0, hW0⟩ : ∃ W, W = ((w.alloc (.cells #[.int .i64 P, .int .i64 Q, .int .i64 G, .int .i64 H] 23)).alloc (.cells #[.int .i64 rE, .int .i64 rT, .int .i64 rK] 57)).alloc (.cells #[.int .i64 P, .int .i64 Q, .int .i64 G, .int .i64 H, .int .i64 0] 81) := ⟨_, rfl⟩
  obtain ⟨b, hb⟩ : ∃ b, b = w.heap.size + 1 + 1 := ⟨_, rfl⟩
  have hA0 : AskAt W0 b P Q G H := by
    rw [hW0, hb]; exact ⟨by simp, by simp [go_sem], by simp [go_sem], by simp [go_sem], by simp [go_sem], by simp [go_sem], by simp [go_sem]⟩
  have g2 : W0.cell? ⟨w.heap.size, 2, none⟩ = some (.int .i64 G) := by rw [hW0]; simp [go_sem]
  have r0 : W0.cell? ⟨w.heap.size + 1, 0, none⟩ = some (.int .i64 rE) := by rw [hW0]; simp [go_sem]
  have r1 : W0.cell? ⟨w.heap.size + 1, 1, none⟩ = some (.int .i64 rT) := by rw [hW0]; simp [go_sem]
  have hbw : Below w.heap.size w W0 := by rw [hW0]; exact (((Below.refl _ _).alloc (Nat.le_refl _) _).alloc (by simp) _).alloc (by simp <;> omega) _
  have hbe : w.heap.size + 1 < b := by omega
  rw [← hW0, ← hb]
  clear hW0 hb
  have S1 : (AskAt W0.drew b P Q G H ∧ W0.drew.cell? ⟨w.heap.size, 2, none⟩ = some (.int .i64 G) ∧ W0.drew.cell? ⟨w.heap.size + 1, 0, none⟩ = some (.int .i64 rE)) := ⟨hA0.drew, g2, r0⟩
  have hK1 : Below b W0 W0.drew := (Below.refl _ _).drew
  clear hA0
  refine wp_region_D (S := (fun w' : World => AskAt w' b P Q G H ∧ w'.cell? ⟨w.heap.size, 2, none⟩ = some (.int .i64 G) ∧ w'.cell? ⟨w.heap.size + 1, 0, none⟩ = some (.int .i64 rE))) (fun _ => true) (by kernel_rfl) S1 (fun hHeld => ?_)
  simp only [List.size_toArray, List.length_cons, List.length_nil, Nat.reduceAdd, Array.replicate_succ, Array.replicate_zero, List.push_toArray, List.append_toArray, List.nil_append, List.cons_append]
  refine WD_free (i := 0) (oi := _) (v := ?_) rfl (by kernel_rfl) (fun _ _ _ h => h) (Or.inl ⟨by rfl, ?_⟩) ?_
  rotate_left
  · (intro W hS; (try dsimp only at hS); clear hS; go_simp; with_reducible rfl)
  try simp only [Act.put, List.getElem_toArray, List.getElem_cons_succ, List.getElem_cons_zero, List.setIfInBounds_toArray, List.set_cons_zero, List.set_cons_succ]
  refine WD_free (i := 1) (oi := _) (v := ?_) rfl (by kernel_rfl) (fun _ _ _ h => h) (Or.inl ⟨by rfl, ?_⟩) ?_
  rotate_left
  · (intro W hS; (try dsimp only at hS); clear hS; go_simp; with_reducible rfl)
  try simp only [Act.put, List.getElem_toArray, List.getElem_cons_succ, List.getElem_cons_zero, List.setIfInBounds_toArray, List.set_cons_zero, List.set_cons_succ]
  refine WD_free (i := 2) (oi := _) (v := ?_) rfl (by kernel_rfl) (fun _ _ _ h => h) (Or.inl ⟨by rfl, ?_⟩) ?_
  rotate_left
  · (intro W hS; (try dsimp only at hS); clear hS; go_simp; with_reducible rfl)
  try simp only [Act.put, List.getElem_toArray, List.getElem_cons_succ, List.getElem_cons_zero, List.setIfInBounds_toArray, List.set_cons_zero, List.set_cons_succ]
  refine WD_take (i := 3) (oi := _) (v := ?_) rfl (by kernel_rfl) (fun _ _ _ h => h) (Or.inl ⟨by rfl, ?_⟩) (by assumption) ?_
  rotate_left
  · (intro W hS; (try dsimp only at hS); have hSw := hS.2.1; clear hS; go_simp; with_reducible rfl)
  try simp only [Act.put, List.getElem_toArray, List.getElem_cons_succ, List.getElem_cons_zero, List.setIfInBounds_toArray, List.set_cons_zero, List.set_cons_succ]
  refine WD_free (i := 5) (oi := _) (v := ?_) rfl (by kernel_rfl) (fun _ _ _ h => h) (Or.inl ⟨by rfl, ?_⟩) ?_
  rotate_left
  · (intro W hS; (try dsimp only at hS); clear hS; go_simp; with_reducible rfl)
  try simp only [Act.put, List.getElem_toArray, List.getElem_cons_succ, List.getElem_cons_zero, List.setIfInBounds_toArray, List.set_cons_zero, List.set_cons_succ]
  refine WD_free (i := 6) (oi := _) (v := ?_) rfl (by kernel_rfl) (fun _ _ _ h => h) (Or.inl ⟨by rfl, ?_⟩) ?_
  rotate_left
  · (intro W hS; (try dsimp only at hS); clear hS; go_simp; with_reducible rfl)
  try simp only [Act.put, List.getElem_toArray, List.getElem_cons_succ, List.getElem_cons_zero, List.setIfInBounds_toArray, List.set_cons_zero, List.set_cons_succ]
  refine WD_free (i := 7) (oi := _) (v := ?_) rfl (by kernel_rfl) (fun _ _ _ h => h) (Or.inl ⟨by rfl, ?_⟩) ?_
  rotate_left
  · (intro W hS; (try dsimp only at hS); clear hS; go_simp; with_reducible rfl)
  try simp only [Act.put, List.getElem_toArray, List.getElem_cons_succ, List.getElem_cons_zero, List.setIfInBounds_toArray, List.set_cons_zero, List.set_cons_succ]
  refine WD_free (i := 9) (oi := _) (v := ?_) rfl (by kernel_rfl) (fun _ _ _ h => h) (Or.inl ⟨by rfl, ?_⟩) ?_
  rotate_left
  · (intro W hS; (try dsimp only at hS); clear hS; go_simp; with_reducible rfl)
  try simp only [Act.put, List.getElem_toArray, List.getElem_cons_succ, List.getElem_cons_zero, List.setIfInBounds_toArray, List.set_cons_zero, List.set_cons_succ]
  refine WD_free (i := 10) (oi := _) (v := ?_) rfl (by kernel_rfl) (fun _ _ _ h => h) (Or.inl ⟨by rfl, ?_⟩) ?_
  rotate_left
  · (intro W hS; (try dsimp only at hS); clear hS; go_simp; with_reducible rfl)
  try simp only [Act.put, List.getElem_toArray, List.getElem_cons_succ, List.getElem_cons_zero, List.setIfInBounds_toArray, List.set_cons_zero, List.set_cons_succ]
  refine WD_free (i := 11) (oi := _) (v := ?_) rfl (by kernel_rfl) (fun _ _ _ h => h) (Or.inl ⟨by rfl, ?_⟩) ?_
  rotate_left
  · (intro W hS; (try dsimp only at hS); clear hS; go_simp; with_reducible rfl)
  try simp only [Act.put, List.getElem_toArray, List.getElem_cons_succ, List.getElem_cons_zero, List.setIfInBounds_toArray, List.set_cons_zero, List.set_cons_succ]
  refine WD_take (i := 12) (oi := _) (v := ?_) rfl (by kernel_rfl) (fun _ _ _ h => h) (Or.inl ⟨by rfl, ?_⟩) (by assumption) ?_
  rotate_left
  · (intro W hS; (try dsimp only at hS); have hSw := hS.2.2; clear hS; go_simp; with_reducible rfl)
  try simp only [Act.put, List.getElem_toArray, List.getElem_cons_succ, List.getElem_cons_zero, List.setIfInBounds_toArray, List.set_cons_zero, List.set_cons_succ]
  refine WD_step (i := 4) (o := _) rfl (by kernel_rfl) (fun K hK => ?_)
  go_simp
  go_at_call 35
  refine (asked_shared P Q G H k G b b _ hHeld.1 (Nat.le_refl _) H1.out).mono ?_
  rintro e w2 ⟨rfl, hA2, hB2⟩
  replace hK1 := hK1.trans hB2.1
  go_wp2_with fail
  replace hHeld := (⟨hA2, (hB2.1.cell (p := ⟨w.heap.size, 2, none⟩) (by simp; omega)).trans hHeld.2.1, (hB2.1.cell (p := ⟨w.heap.size + 1, 0, none⟩) (by simp; omega)).trans hHeld.2.2⟩ : (fun w' : World => AskAt w' b P Q G H ∧ w'.cell? ⟨w.heap.size, 2, none⟩ = some (.int .i64 G) ∧ w'.cell? ⟨w.heap.size + 1, 0, none⟩ = some (.int .i64 rE)) w2)
  refine hK.out _ _ (fun _ _ => hHeld) ?_
  clear hK K
  try simp only [Act.put, List.getElem_toArray, List.getElem_cons_succ, List.getElem_cons_zero, List.setIfInBounds_toArray, List.set_cons_zero, List.set_cons_succ]
  try dsimp only at hHeld
  refine WD_step (i := 8) (o := _) rfl (by kernel_rfl) (fun K hK => ?_)
  go_simp
  go_at_call 35
  refine (asked_shared P Q G H k t b b _ hHeld.1 (Nat.le_refl _) H2.out).mono ?_
  rintro e w3 ⟨rfl, hA3, hB3⟩
  replace hK1 := hK1.trans hB3.1
  go_wp2_with fail
  replace hHeld := (⟨hA3, (hB3.1.cell (p := ⟨w.heap.size, 2, none⟩) (by simp; omega)).trans hHeld.2.1, (hB3.1.cell (p := ⟨w.heap.size + 1, 0, none⟩) (by simp; omega)).trans hHeld.2.2⟩ : (fun w' : World => AskAt w' b P Q G H ∧ w'.cell? ⟨w.heap.size, 2, none⟩ = some (.int .i64 G) ∧ w'.cell? ⟨w.heap.size + 1, 0, none⟩ = some (.int .i64 rE)) w3)
  refine hK.out _ _ (fun _ _ => hHeld) ?_
  clear hK K
  try simp only [Act.put, List.getElem_toArray, List.getElem_cons_succ, List.getElem_cons_zero, List.setIfInBounds_toArray, List.set_cons_zero, List.set_cons_succ]
  try dsimp only at hHeld
  refine WD_step (i := 13) (o := _) rfl (by kernel_rfl) (fun K hK => ?_)
  go_simp
  go_at_call 35
  refine (asked_shared P Q G H k rE b b _ hHeld.1 (Nat.le_refl _) H3.out).mono ?_
  rintro e w4 ⟨rfl, hA4, hB4⟩
  replace hK1 := hK1.trans hB4.1
  go_wp2_with fail
  replace hHeld := (⟨hA4, (hB4.1.cell (p := ⟨w.heap.size, 2, none⟩) (by simp; omega)).trans hHeld.2.1, (hB4.1.cell (p := ⟨w.heap.size + 1, 0, none⟩) (by simp; omega)).trans hHeld.2.2⟩ : (fun w' : World => AskAt w' b P Q G H ∧ w'.cell? ⟨w.heap.size, 2, none⟩ = some (.int .i64 G) ∧ w'.cell? ⟨w.heap.size + 1, 0, none⟩ = some (.int .i64 rE)) w4)
  refine hK.out _ _ (fun _ _ => hHeld) ?_
  clear hK K
  try simp only [Act.put, List.getElem_toArray, List.getElem_cons_succ, List.getElem_cons_zero, List.setIfInBounds_toArray, List.set_cons_zero, List.set_cons_succ]
  try dsimp only at hHeld
  refine WD_free (i := 14) (oi := _) (v := ?_) rfl (by kernel_rfl) (fun _ _ _ h => h) (Or.inl ⟨by rfl, ?_⟩) ?_
  rotate_left
  · (intro W hS; (try dsimp only at hS); clear hS; go_simp; with_reducible rfl)
  try simp only [Act.put, List.getElem_toArray, List.getElem_cons_succ, List.getElem_cons_zero, List.setIfInBounds_toArray, List.set_cons_zero, List.set_cons_succ]
  refine WD_free (i := 15) (oi := _) (v := ?_) rfl (by kernel_rfl) (fun _ _ _ h => h) (Or.inl ⟨by rfl, ?_⟩) ?_
  rotate_left
  · (intro W hS; (try dsimp only at hS); clear hS; go_simp; with_reducible rfl)
  try simp only [Act.put, List.getElem_toArray, List.getElem_cons_succ, List.getElem_cons_zero, List.setIfInBounds_toArray, List.set_cons_zero, List.set_cons_succ]
  refine WD_free (i := 16) (oi := _) (v := ?_) rfl (by kernel_rfl) (fun _ _ _ h => h) (Or.inl ⟨by rfl, ?_⟩) ?_
  rotate_left
  · (intro W hS; (try dsimp only at hS); clear hS; go_simp; with_reducible rfl)
  try simp only [Act.put, List.getElem_toArray, List.getElem_cons_succ, List.getElem_cons_zero, List.setIfInBounds_toArray, List.set_cons_zero, List.set_cons_succ]
  refine WD_done (by kernel_rfl) ?_ _
  have c4 := hHeld.1.c4
  have R0 := (hK1.cell (p := ⟨w.heap.size + 1, 0, none⟩) (by simp; omega)).trans r0
  have R1 := (hK1.cell (p := ⟨w.heap.size + 1, 1, none⟩) (by simp; omega)).trans r1
  have hbt : Below w.heap.size w w4 := hbw.trans (hK1.mono (by omega))
  have z4 : b < w4.heap.size := hHeld.1.lt
  have q1 := pw_nonneg G k (show 1 ≤ P by omega)
  have q2 := pw_lt G k (show 1 ≤ P by omega)
  have q5 := pw_nonneg t k (show 1 ≤ P by omega)
  have q6 := pw_lt t k (show 1 ≤ P by omega)
  have q7 := pw_nonneg rE k (show 1 ≤ P by omega)
  have q8 := pw_lt rE k (show 1 ≤ P by omega)
  obtain ⟨E, hE⟩ : ∃ E, pw G k P = E := ⟨_, rfl⟩
  obtain ⟨X, hX⟩ : ∃ E, pw t k P = E := ⟨_, rfl⟩
  obtain ⟨Y, hY⟩ : ∃ E, pw rE k P = E := ⟨_, rfl⟩
  rw [hE] at q1 q2 ⊢
  rw [hX] at q5 q6 ⊢
  rw [hY] at q7 q8 ⊢
  have HE := Lib.hid hE
  have HX := Lib.hid hX
  have HY := Lib.hid hY
  clear hE hX hY hHeld S1 g2 r0 r1 hbw
  go_wp2_with fail
  refine (shake_five E rE t X Y _ (by omega) hr ht (by omega) (by omega) w4.heap.size (fun j v hv => ?_) (by simp)).mono ?_
  · rcases j with _ | _ | _ | _ | _ | j <;> simp at hv <;> subst hv <;> simp [go_sem]
  rintro e w6 ⟨a6, c6, rfl, hb6, hr6⟩
  have hb6' := below_two ((Below.refl w4.heap.size w4).alloc (Nat.le_refl _) _) hb6
  replace R1 := kept hb6' R1 (by omega)
  replace hbt := below_two hbt hb6'
  have z6 := hb6'.size
  have HSm := shake_sums a6 c6 (shkN E rE t X Y) w6 hr6 (by rw [shkN_len]; omega) (by rw [shkN_len]; omega) (txtN_lt _)
  rw [shkN_len] at HSm
  have HSm := Lib.hid HSm
  obtain ⟨K1, hK1'⟩ : ∃ K, sumN (1 :: shkN E rE t X Y) = K := ⟨_, rfl⟩
  obtain ⟨K2, hK2'⟩ : ∃ K, sumN (2 :: shkN E rE t X Y) = K := ⟨_, rfl⟩
  rw [hK1', hK2'] at HSm
  have HK1 := Lib.hid hK1'
  have HK2 := Lib.hid hK2'
  clear hK1' hK2' hb6 hr6 hb6'
  go_wp2_with fail
  refine HSm.out.mono ?_
  rintro e w7 ⟨rfl, hb7⟩
  have z7 := hb7.size
  replace R1 := kept hb7 R1 (by omega)
  replace hbt := below_two hbt hb7
  by_cases hT : (K2 : Int) = rT
  · have t1 : ((K2 : Int) != rT) = false := by simpa using hT
    have HT := Lib.hid hT
    clear hT
    go_wp2
    go_ret2
    refine ⟨?_, hbt⟩
    obtain rfl := HK1.out
    obtain rfl := HK2.out
    obtain rfl := HE.out
    obtain rfl := HX.out
    obtain rfl := HY.out
    rw [HQ0.out]
    exact ⟨fun _ => rfl, fun h => absurd HT.out h⟩
  · have t1 : ((K2 : Int) != rT) = true := by simpa using hT
    have HT := Lib.hid hT
    clear hT
    go_wp2
    go_ret2
    refine ⟨?_, hbt⟩
    obtain rfl := HK1.out
    obtain rfl := HK2.out
    obtain rfl := HE.out
    obtain rfl := HX.out
    obtain rfl := HY.out
    rw [HQ0.out]
    exact ⟨fun h => absurd h HT.out, fun _ => rfl⟩
end Go.Proofs.Ytkodhpjmmiapaaa

/- (*asked).shared where something is wrong; shake.Answer for a bad power. -/
namespace Go.Proofs.Ytkodhpjmmiapaaa
open Go.RowKit
set_option linter.unusedVariables false
set_option linter.unusedSimpArgs false
/-- the block of what is asked: a group, and what is wrong -/
structure AskE (W : World) (b : Nat) (P Q G H x : Int) : Prop where
  lt : b < W.heap.size
  c0 : W.cell? ⟨b, 0, none⟩ = some (.int .i64 P)
  c1 : W.cell? ⟨b, 1, none⟩ = some (.int .i64 Q)
  c2 : W.cell? ⟨b, 2, none⟩ = some (.int .i64 G)
  c3 : W.cell? ⟨b, 3, none⟩ = some (.int .i64 H)
  c4 : W.cell? ⟨b, 4, none⟩ = some (.int .i64 x)
  fr : W.frozen? ⟨b, 4, none⟩ = false
set_option maxRecDepth 20000 in
set_option maxHeartbeats 1600000 in
theorem asked_bad1 (P Q G H k t : Int) (b B : Nat) (w : World) (ha : AskAt w b P Q G H) (hB : B ≤ b) (x : Int) (hx : shE P Q G H k t = x) (hs : ¬ x = 0) :
    Calls Try.prog 35 #[.pointer (some ⟨b, 0, none⟩), .int .i64 k, .int .i64 t] w fun e w' => e = .returned (.int .i64 0) ∧ AskE w' b P Q G H x ∧ But b B w w' := by
  obtain ⟨hb, a0, a1, a2, a3, a4, a5⟩ := ha
  have HS := Lib.hid hs
  have HX := Lib.hid hx
  clear hs hx
  go_enter Try.func35, Try.ntmps35
  go_wp2_with fail
  refine (group_Shared_no P Q G H k t _ (by rw [HX.out]; exact HS.out)).mono ?_
  rintro e w1 ⟨rfl, hb1⟩
  rw [HX.out]
  have z1 := hb1.size
  have b0 := kept hb1 a0 hb
  have b1 := kept hb1 a1 hb
  have b2 := kept hb1 a2 hb
  have b3 := kept hb1 a3 hb
  have b4 := kept hb1 a4 hb
  have b5 := frozK hb1 hb a5
  go_wp2
  go_ret
  have e0 : ∀ j : Nat, j ≠ 4 → (w1.setCell ⟨b, 4, none⟩ (.int .i64 x)).cell? ⟨b, j, none⟩ = w1.cell? ⟨b, j, none⟩ := fun j hj => by
    have hne : (⟨b, 4, none⟩ : Addr) ≠ ⟨b, j, none⟩ := fun e => hj (by injection e with _ e2 _; exact e2.symm)
    rw [World.cell?_setCell_other (a := (⟨b, 4, none⟩ : Addr)) (b := (⟨b, j, none⟩ : Addr)) (h := hne)]
  refine ⟨rfl, ⟨by simp; omega, (e0 0 (by omega)).trans b0, (e0 1 (by omega)).trans b1, (e0 2 (by omega)).trans b2, (e0 3 (by omega)).trans b3, World.cell?_setCell_same' _ _ _ (by simp [b4]), by rw [World.frozen?_setCell]; exact b5⟩, ?_, by simp; omega, fun a ha hne => ?_⟩
  · exact (hb1.mono (by omega)).setCell (p := ⟨b, 4, none⟩) hB _
  · rw [World.cell?_setCell_far _ _ _ _ (by exact fun e => hne e.symm)]
    exact hb1.cell ha
set_option maxRecDepth 20000 in
set_option maxHeartbeats 1600000 in
theorem asked_bad2 (P Q G H k t x : Int) (b B : Nat) (w : World) (ha : AskE w b P Q G H x) (hs : ¬ x = 0) :
    Calls Try.prog 35 #[.pointer (some ⟨b, 0, none⟩), .int .i64 k, .int .i64 t] w fun e w' => e = .returned (.int .i64 0) ∧ AskE w' b P Q G H x ∧ But b B w w' := by
  have HA := Lib.hid ha
  have a4 := ha.c4
  have e1 : (x == (0 : Int)) = false := by simpa using hs
  have e2 : (x != (0 : Int)) = true := by simpa using hs
  clear hs ha
  go_enter Try.func35, Try.ntmps35
  go_wp2
  go_ret
  exact ⟨rfl, HA.out, Below.refl _ _, Nat.le_refl _, fun a ha hne => rfl⟩
set_option maxRecDepth 100000 in
set_option maxHeartbeats 6400000 in
theorem shake_Answer_no (P Q G H s k t : Int) (w : World) (hs1 : shE P Q G H s G = 0) (x : Int) (hx : shE P Q G H k G = x) (hs : ¬ x = 0) :
    Calls Try.prog 21 #[.agg #[.int .i64 P, .int .i64 Q, .int .i64 G, .int .i64 H], .int .i64 s, .int .i64 k, .int .i64 t] w fun e w' => e = .returned (.tuple #[.agg #[.int .i64 0, .int .i64 0, .int .i64 0], .int .i64 x]) ∧ Below w.heap.size w w' := by
  have H1 := Lib.hid hs1
  have HX := Lib.hid hx
  have HS := Lib.hid hs
  have e1 : (x == (0 : Int)) = false := by simpa using hs
  have e2 : (x != (0 : Int)) = true := by simpa using hs
  clear hs1 hx hs
  go_enter Try.func21, Try.ntmps21
  go_wp2_with fail
  obtain ⟨W0, hW0⟩ : ∃ W, W = ((w.alloc (.cells #[.int .i64 P, .int .i64 Q, .int .i64 G, .int .i64 H] 23)).alloc (.cells #[.int .i64 0, .int .i64 0, .int .i64 0] 57)).alloc (.cells #[.int .i64 P, .int .i64 Q, .int .i64 G, .int .i64 H, .int .i64 0] 81) := ⟨_, rfl⟩
  obtain ⟨b, hb⟩ : ∃ b, b = w.heap.size + 1 + 1 := ⟨_, rfl⟩
  have hA0 : AskAt W0 b P Q G H := by
    rw [hW0, hb]; exact ⟨by simp, by simp [go_sem], by simp [go_sem], by simp [go_sem], by simp [go_sem], by simp [go_sem], by simp [go_sem]⟩
  have g2 : W0.cell? ⟨w.heap.size, 2, none⟩ = some (.int .i64 G) := by rw [hW0]; simp [go_sem]
  have r0 : W0.cell? ⟨w.heap.size + 1, 0, none⟩ = some (.int .i64 0) := by rw [hW0]; simp [go_sem]
  have r1 : W0.cell? ⟨w.heap.size + 1, 1, none⟩ = some (.int .i64 0) := by rw [hW0]; simp [go_sem]
  have r2 : W0.cell? ⟨w.heap.size + 1, 2, none⟩ = some (.int .i64 0) := by rw [hW0]; simp [go_sem]
  have s0 : W0.frozen? ⟨w.heap.size + 1, 0, none⟩ = false := by rw [hW0]; simp [go_sem]
  have s1 : W0.frozen? ⟨w.heap.size + 1, 1, none⟩ = false := by rw [hW0]; simp [go_sem]
  have s2 : W0.frozen? ⟨w.heap.size + 1, 2, none⟩ = false := by rw [hW0]; simp [go_sem]
  have hbw : Below w.heap.size w W0 := by rw [hW0]; exact (((Below.refl _ _).alloc (Nat.le_refl _) _).alloc (by simp) _).alloc (by simp <;> omega) _
  have hbe : w.heap.size + 1 < b := by omega
  rw [← hW0, ← hb]
  clear hW0 hb
  refine (asked_shared P Q G H s G b b _ hA0 (Nat.le_refl _) H1.out).mono ?_
  rintro e w1 ⟨rfl, hA1, hB1⟩
  have G1 := (hB1.1.cell (p := ⟨w.heap.size, 2, none⟩) (by simp; omega)).trans g2
  have hK1 : Below b W0 w1 := hB1.1
  have S1 : w1.drew.cell? ⟨w.heap.size, 2, none⟩ = some (.int .i64 G) := G1
  replace hA1 := hA1.drew
  replace hK1 : Below b W0 w1.drew := hK1.drew
  clear hA0 hB1
  go_wp2_with fail
  refine wp_region_D (S := (fun w' : World => w'.cell? ⟨w.heap.size, 2, none⟩ = some (.int .i64 G))) (fun _ => true) (by kernel_rfl) S1 (fun hHeld => ?_)
  simp only [List.size_toArray, List.length_cons, List.length_nil, Nat.reduceAdd, Array.replicate_succ, Array.replicate_zero, List.push_toArray, List.append_toArray, List.nil_append, List.cons_append]
  refine WD_free (i := 0) (oi := _) (v := ?_) rfl (by kernel_rfl) (fun _ _ _ h => h) (Or.inl ⟨by rfl, ?_⟩) ?_
  rotate_left
  · (intro W hS; (try dsimp only at hS); clear hS; go_simp; with_reducible rfl)
  try simp only [Act.put, List.getElem_toArray, List.getElem_cons_succ, List.getElem_cons_zero, List.setIfInBounds_toArray, List.set_cons_zero, List.set_cons_succ]
  refine WD_free (i := 1) (oi := _) (v := ?_) rfl (by kernel_rfl) (fun _ _ _ h => h) (Or.inl ⟨by rfl, ?_⟩) ?_
  rotate_left
  · (intro W hS; (try dsimp only at hS); clear hS; go_simp; with_reducible rfl)
  try simp only [Act.put, List.getElem_toArray, List.getElem_cons_succ, List.getElem_cons_zero, List.setIfInBounds_toArray, List.set_cons_zero, List.set_cons_succ]
  refine WD_free (i := 2) (oi := _) (v := ?_) rfl (by kernel_rfl) (fun _ _ _ h => h) (Or.inl ⟨by rfl, ?_⟩) ?_
  rotate_left
  · (intro W hS; (try dsimp only at hS); clear hS; go_simp; with_reducible rfl)
  try simp only [Act.put, List.getElem_toArray, List.getElem_cons_succ, List.getElem_cons_zero, List.setIfInBounds_toArray, List.set_cons_zero, List.set_cons_succ]
  refine WD_take (i := 3) (oi := _) (v := ?_) rfl (by kernel_rfl) (fun _ _ _ h => h) (Or.inl ⟨by rfl, ?_⟩) (by assumption) ?_
  rotate_left
  · (intro W hS; (try dsimp only at hS); have hSw := hS; clear hS; go_simp; with_reducible rfl)
  try simp only [Act.put, List.getElem_toArray, List.getElem_cons_succ, List.getElem_cons_zero, List.setIfInBounds_toArray, List.set_cons_zero, List.set_cons_succ]
  refine WD_free (i := 5) (oi := _) (v := ?_) rfl (by kernel_rfl) (fun _ _ _ h => h) (Or.inl ⟨by rfl, ?_⟩) ?_
  rotate_left
  · (intro W hS; (try dsimp only at hS); clear hS; go_simp; with_reducible rfl)
  try simp only [Act.put, List.getElem_toArray, List.getElem_cons_succ, List.getElem_cons_zero, List.setIfInBounds_toArray, List.set_cons_zero, List.set_cons_succ]
  refine WD_free (i := 6) (oi := _) (v := ?_) rfl (by kernel_rfl) (fun _ _ _ h => h) (Or.inl ⟨by rfl, ?_⟩) ?_
  rotate_left
  · (intro W hS; (try dsimp only at hS); clear hS; go_simp; with_reducible rfl)
  try simp only [Act.put, List.getElem_toArray, List.getElem_cons_succ, List.getElem_cons_zero, List.setIfInBounds_toArray, List.set_cons_zero, List.set_cons_succ]
  refine WD_free (i := 7) (oi := _) (v := ?_) rfl (by kernel_rfl) (fun _ _ _ h => h) (Or.inl ⟨by rfl, ?_⟩) ?_
  rotate_left
  · (intro W hS; (try dsimp only at hS); clear hS; go_simp; with_reducible rfl)
  try simp only [Act.put, List.getElem_toArray, List.getElem_cons_succ, List.getElem_cons_zero, List.setIfInBounds_toArray, List.set_cons_zero, List.set_cons_succ]
  refine WD_take (i := 8) (oi := _) (v := ?_) rfl (by kernel_rfl) (fun _ _ _ h => h) (Or.inl ⟨by rfl, ?_⟩) (by assumption) ?_
  rotate_left
  · (intro W hS; (try dsimp only at hS); have hSw := hS; clear hS; go_simp; with_reducible rfl)
  try simp only [Act.put, List.getElem_toArray, List.getElem_cons_succ, List.getElem_cons_zero, List.setIfInBounds_toArray, List.set_cons_zero, List.set_cons_succ]
  refine WD_free (i := 10) (oi := _) (v := ?_) rfl (by kernel_rfl) (fun _ _ _ h => h) (Or.inl ⟨by rfl, ?_⟩) ?_
  rotate_left
  · (intro W hS; (try dsimp only at hS); clear hS; go_simp; with_reducible rfl)
  try simp only [Act.put, List.getElem_toArray, List.getElem_cons_succ, List.getElem_cons_zero, List.setIfInBounds_toArray, List.set_cons_zero, List.set_cons_succ]
  refine WD_free (i := 11) (oi := _) (v := ?_) rfl (by kernel_rfl) (fun _ _ _ h => h) (Or.inl ⟨by rfl, ?_⟩) ?_
  rotate_left
  · (intro W hS; (try dsimp only at hS); clear hS; go_simp; with_reducible rfl)
  try simp only [Act.put, List.getElem_toArray, List.getElem_cons_succ, List.getElem_cons_zero, List.setIfInBounds_toArray, List.set_cons_zero, List.set_cons_succ]
  refine WD_free (i := 12) (oi := _) (v := ?_) rfl (by kernel_rfl) (fun _ _ _ h => h) (Or.inl ⟨by rfl, ?_⟩) ?_
  rotate_left
  · (intro W hS; (try dsimp only at hS); clear hS; go_simp; with_reducible rfl)
  try simp only [Act.put, List.getElem_toArray, List.getElem_cons_succ, List.getElem_cons_zero, List.setIfInBounds_toArray, List.set_cons_zero, List.set_cons_succ]
  refine WD_free (i := 14) (oi := _) (v := ?_) rfl (by kernel_rfl) (fun _ _ _ h => h) (Or.inl ⟨by rfl, ?_⟩) ?_
  rotate_left
  · (intro W hS; (try dsimp only at hS); clear hS; go_simp; with_reducible rfl)
  try simp only [Act.put, List.getElem_toArray, List.getElem_cons_succ, List.getElem_cons_zero, List.setIfInBounds_toArray, List.set_cons_zero, List.set_cons_succ]
  refine WD_free (i := 15) (oi := _) (v := ?_) rfl (by kernel_rfl) (fun _ _ _ h => h) (Or.inl ⟨by rfl, ?_⟩) ?_
  rotate_left
  · (intro W hS; (try dsimp only at hS); clear hS; go_simp; with_reducible rfl)
  try simp only [Act.put, List.getElem_toArray, List.getElem_cons_succ, List.getElem_cons_zero, List.setIfInBounds_toArray, List.set_cons_zero, List.set_cons_succ]
  refine WD_free (i := 16) (oi := _) (v := ?_) rfl (by kernel_rfl) (fun _ _ _ h => h) (Or.inl ⟨by rfl, ?_⟩) ?_
  rotate_left
  · (intro W hS; (try dsimp only at hS); clear hS; go_simp; with_reducible rfl)
  try simp only [Act.put, List.getElem_toArray, List.getElem_cons_succ, List.getElem_cons_zero, List.setIfInBounds_toArray, List.set_cons_zero, List.set_cons_succ]
  refine WD_step (i := 4) (o := _) rfl (by kernel_rfl) (fun K hK => ?_)
  go_simp
  go_at_call 35
  refine (asked_bad1 P Q G H k G b b _ hA1 (Nat.le_refl _) x HX.out HS.out).mono ?_
  rintro e w2 ⟨rfl, hA2, hB2⟩
  replace hK1 := hK1.trans hB2.1
  go_wp2_with fail
  replace hHeld := (show w2.cell? ⟨w.heap.size, 2, none⟩ = some (.int .i64 G) from (hB2.1.cell (p := ⟨w.heap.size, 2, none⟩) (by simp; omega)).trans hHeld)
  refine hK.out _ _ (fun _ _ => hHeld) ?_
  clear hK K
  try simp only [Act.put, List.getElem_toArray, List.getElem_cons_succ, List.getElem_cons_zero, List.setIfInBounds_toArray, List.set_cons_zero, List.set_cons_succ]
  try dsimp only at hHeld
  refine WD_step (i := 9) (o := _) rfl (by kernel_rfl) (fun K hK => ?_)
  go_simp
  go_at_call 35
  refine (asked_bad2 P Q G H s G x b b _ hA2 HS.out).mono ?_
  rintro e w3 ⟨rfl, hA3, hB3⟩
  replace hK1 := hK1.trans hB3.1
  go_wp2_with fail
  replace hHeld := (show w3.cell? ⟨w.heap.size, 2, none⟩ = some (.int .i64 G) from (hB3.1.cell (p := ⟨w.heap.size, 2, none⟩) (by simp; omega)).trans hHeld)
  refine hK.out _ _ (fun _ _ => hHeld) ?_
  clear hK K
  try simp only [Act.put, List.getElem_toArray, List.getElem_cons_succ, List.getElem_cons_zero, List.setIfInBounds_toArray, List.set_cons_zero, List.set_cons_succ]
  try dsimp only at hHeld
  refine WD_step (i := 13) (o := _) rfl (by kernel_rfl) (fun K hK => ?_)
  go_simp
  go_at_call 35
  refine (asked_bad2 P Q G H s t x b b _ hA3 HS.out).mono ?_
  rintro e w4 ⟨rfl, hA4, hB4⟩
  replace hK1 := hK1.trans hB4.1
  go_wp2_with fail
  replace hHeld := (show w4.cell? ⟨w.heap.size, 2, none⟩ = some (.int .i64 G) from (hB4.1.cell (p := ⟨w.heap.size, 2, none⟩) (by simp; omega)).trans hHeld)
  refine hK.out _ _ (fun _ _ => hHeld) ?_
  clear hK K
  try simp only [Act.put, List.getElem_toArray, List.getElem_cons_succ, List.getElem_cons_zero, List.setIfInBounds_toArray, List.set_cons_zero, List.set_cons_succ]
  try dsimp only at hHeld
  refine WD_step (i := 17) (o := _) rfl (by kernel_rfl) (fun K hK => ?_)
  go_simp
  go_at_call 35
  refine (asked_bad2 P Q G H k t x b b _ hA4 HS.out).mono ?_
  rintro e w5 ⟨rfl, hA5, hB5⟩
  replace hK1 := hK1.trans hB5.1
  go_wp2_with fail
  replace hHeld := (show w5.cell? ⟨w.heap.size, 2, none⟩ = some (.int .i64 G) from (hB5.1.cell (p := ⟨w.heap.size, 2, none⟩) (by simp; omega)).trans hHeld)
  refine hK.out _ _ (fun _ _ => hHeld) ?_
  clear hK K
  try simp only [Act.put, List.getElem_toArray, List.getElem_cons_succ, List.getElem_cons_zero, List.setIfInBounds_toArray, List.set_cons_zero, List.set_cons_succ]
  try dsimp only at hHeld
  refine WD_free (i := 18) (oi := _) (v := ?_) rfl (by kernel_rfl) (fun _ _ _ h => h) (Or.inl ⟨by rfl, ?_⟩) ?_
  rotate_left
  · (intro W hS; (try dsimp only at hS); clear hS; go_simp; with_reducible rfl)
  try simp only [Act.put, List.getElem_toArray, List.getElem_cons_succ, List.getElem_cons_zero, List.setIfInBounds_toArray, List.set_cons_zero, List.set_cons_succ]
  refine WD_free (i := 19) (oi := _) (v := ?_) rfl (by kernel_rfl) (fun _ _ _ h => h) (Or.inl ⟨by rfl, ?_⟩) ?_
  rotate_left
  · (intro W hS; (try dsimp only at hS); clear hS; go_simp; with_reducible rfl)
  try simp only [Act.put, List.getElem_toArray, List.getElem_cons_succ, List.getElem_cons_zero, List.setIfInBounds_toArray, List.set_cons_zero, List.set_cons_succ]
  refine WD_free (i := 20) (oi := _) (v := ?_) rfl (by kernel_rfl) (fun _ _ _ h => h) (Or.inl ⟨by rfl, ?_⟩) ?_
  rotate_left
  · (intro W hS; (try dsimp only at hS); clear hS; go_simp; with_reducible rfl)
  try simp only [Act.put, List.getElem_toArray, List.getElem_cons_succ, List.getElem_cons_zero, List.setIfInBounds_toArray, List.set_cons_zero, List.set_cons_succ]
  refine WD_free (i := 21) (oi := _) (v := ?_) rfl (by kernel_rfl) (fun _ _ _ h => h) (Or.inl ⟨by rfl, ?_⟩) ?_
  rotate_left
  · (intro W hS; (try dsimp only at hS); clear hS; go_simp; with_reducible rfl)
  try simp only [Act.put, List.getElem_toArray, List.getElem_cons_succ, List.getElem_cons_zero, List.setIfInBounds_toArray, List.set_cons_zero, List.set_cons_succ]
  refine WD_done (by kernel_rfl) ?_ _
  have c4 := hA5.c4
  have R0 := (hK1.cell (p := ⟨w.heap.size + 1, 0, none⟩) (by simp; omega)).trans r0
  have R1 := (hK1.cell (p := ⟨w.heap.size + 1, 1, none⟩) (by simp; omega)).trans r1
  have R2 := (hK1.cell (p := ⟨w.heap.size + 1, 2, none⟩) (by simp; omega)).trans r2
  have T0 := (hK1.frozen (p := ⟨w.heap.size + 1, 0, none⟩) (by simp; omega)).trans s0
  have T1 := (hK1.frozen (p := ⟨w.heap.size + 1, 1, none⟩) (by simp; omega)).trans s1
  have T2 := (hK1.frozen (p := ⟨w.heap.size + 1, 2, none⟩) (by simp; omega)).trans s2
  have hbt : Below w.heap.size w w5 := hbw.trans (hK1.mono (by omega))
  have z5 : b < w5.heap.size := hA5.lt
  clear hHeld S1 g2 r0 r1 r2 s0 s1 s2 hbw hA1 hA2 hA3 hA4 hA5
  go_wp2_with fail
  refine wp_region_D (S := (fun W' : World => W'.cell? ⟨b, 4, none⟩ = some (.int .i64 x))) (fun _ => true) (by kernel_rfl) c4 (fun hHeld => ?_)
  simp only [List.size_toArray, List.length_cons, List.length_nil, Nat.reduceAdd, Array.replicate_succ, Array.replicate_zero, List.push_toArray, List.append_toArray, List.nil_append, List.cons_append]
  refine WD_free (i := 0) (oi := _) (v := ?_) rfl (by kernel_rfl) (fun _ _ _ h => h) (Or.inl ⟨by rfl, ?_⟩) ?_
  rotate_left
  · (intro W hS; (try dsimp only at hS); clear hS; go_simp; with_reducible rfl)
  try simp only [Act.put, List.getElem_toArray, List.getElem_cons_succ, List.getElem_cons_zero, List.setIfInBounds_toArray, List.set_cons_zero, List.set_cons_succ]
  refine WD_free (i := 1) (oi := _) (v := ?_) rfl (by kernel_rfl) (fun _ _ _ h => h) (Or.inl ⟨by rfl, ?_⟩) ?_
  rotate_left
  · (intro W hS; (try dsimp only at hS); clear hS; go_simp; with_reducible rfl)
  try simp only [Act.put, List.getElem_toArray, List.getElem_cons_succ, List.getElem_cons_zero, List.setIfInBounds_toArray, List.set_cons_zero, List.set_cons_succ]
  refine WD_free (i := 2) (oi := _) (v := ?_) rfl (by kernel_rfl) (fun _ _ _ h => h) (Or.inl ⟨by rfl, ?_⟩) ?_
  rotate_left
  · (intro W hS; (try dsimp only at hS); clear hS; go_simp; with_reducible rfl)
  try simp only [Act.put, List.getElem_toArray, List.getElem_cons_succ, List.getElem_cons_zero, List.setIfInBounds_toArray, List.set_cons_zero, List.set_cons_succ]
  refine WD_free (i := 3) (oi := _) (v := ?_) rfl (by kernel_rfl) (fun _ _ _ h => h) (Or.inl ⟨by rfl, ?_⟩) ?_
  rotate_left
  · (intro W hS; (try dsimp only at hS); clear hS; go_simp; with_reducible rfl)
  try simp only [Act.put, List.getElem_toArray, List.getElem_cons_succ, List.getElem_cons_zero, List.setIfInBounds_toArray, List.set_cons_zero, List.set_cons_succ]
  refine WD_take (i := 4) (oi := _) (v := ?_) rfl (by kernel_rfl) (fun _ _ _ h => h) (Or.inl ⟨by rfl, ?_⟩) (by assumption) ?_
  rotate_left
  · (intro W hS; (try dsimp only at hS); have kk := hS; clear hS; go_simp; with_reducible rfl)
  try simp only [Act.put, List.getElem_toArray, List.getElem_cons_succ, List.getElem_cons_zero, List.setIfInBounds_toArray, List.set_cons_zero, List.set_cons_succ]
  refine WD_step (i := 5) (o := _) rfl (by kernel_rfl) (fun K hK => ?_)
  go_simp
  refine hK.out _ _ (fun _ h => ?_) ?_
  · show (World.setCell (World.setCell (World.setCell _ _ _) _ _) _ _).cell? ⟨b, 4, none⟩ = _
    rw [World.cell?_setCell_far _ _ _ _ (show w.heap.size + 1 ≠ b by omega), World.cell?_setCell_far _ _ _ _ (show w.heap.size + 1 ≠ b by omega), World.cell?_setCell_far _ _ _ _ (show w.heap.size + 1 ≠ b by omega)]
    exact h
  clear hK K
  try simp only [Act.put, List.getElem_toArray, List.getElem_cons_succ, List.getElem_cons_zero, List.setIfInBounds_toArray, List.set_cons_zero, List.set_cons_succ]
  refine WD_free (i := 6) (oi := _) (v := ?_) rfl (by kernel_rfl) (fun _ _ _ h => h) (Or.inl ⟨by rfl, ?_⟩) ?_
  rotate_left
  · (intro W hS; (try dsimp only at hS); clear hS; go_simp; with_reducible rfl)
  try simp only [Act.put, List.getElem_toArray, List.getElem_cons_succ, List.getElem_cons_zero, List.setIfInBounds_toArray, List.set_cons_zero, List.set_cons_succ]
  refine WD_done (by kernel_rfl) ?_ _
  have hbd : Below w.heap.size w w5.drew := hbt.drew
  clear c4 hHeld
  go_wp2
  refine bodyPost_ret (v := .tuple #[.agg #[.int .i64 0, .int .i64 0, .int .i64 0], .int .i64 x]) ?_ rfl ?_
  · simp [results, Try.f21, go_sem, R0, R1, R2]
  · exact ⟨rfl, ((hbd.setCell (by simp) _).setCell (by simp) _).setCell (by simp) _⟩
end Go.Proofs.Ytkodhpjmmiapaaa

/- The walk of ShakeSame. -/
namespace Go.Proofs.Ytkodhpjmmiapaaa
open Go.RowKit
set_option linter.unusedVariables false
set_option linter.unusedSimpArgs false
theorem shake_Start (P Q G H a : Int) (w : World) (h : shE P Q G H a G = 0) :
    Calls Try.prog 20 #[.agg #[.int .i64 P, .int .i64 Q, .int .i64 G, .int .i64 H], .int .i64 a] w fun e w' => e = .returned (.tuple #[.int .i64 (pw G a P), .int .i64 0]) ∧ Below w.heap.size w w' := by
  have HH := Lib.hid h
  clear h
  go_enter Try.func20, Try.ntmps20
  go_wp2_with fail
  refine (group_Public P Q G H a _ HH.out).mono ?_
  rintro e w1 ⟨rfl, hb1⟩
  go_wp2
  go_ret2
  exact ⟨rfl, below_two ((Below.refl _ _).alloc (Nat.le_refl _) _) hb1⟩
theorem shake_Start_no (P Q G H a : Int) (w : World) (h : ¬ shE P Q G H a G = 0) :
    Calls Try.prog 20 #[.agg #[.int .i64 P, .int .i64 Q, .int .i64 G, .int .i64 H], .int .i64 a] w fun e w' => (∃ v, e = .returned (.tuple #[v, .int .i64 (shE P Q G H a G)])) ∧ Below w.heap.size w w' := by
  have HH := Lib.hid h
  clear h
  go_enter Try.func20, Try.ntmps20
  go_wp2_with fail
  refine (group_Public_no P Q G H a _ HH.out).mono ?_
  rintro e w1 ⟨rfl, hb1⟩
  go_wp2
  go_ret2
  exact ⟨⟨_, rfl⟩, below_two ((Below.refl _ _).alloc (Nat.le_refl _) _) hb1⟩
theorem public_any (P Q G H a : Int) (w : World) :
    Calls Try.prog 22 #[.agg #[.int .i64 P, .int .i64 Q, .int .i64 G, .int .i64 H], .int .i64 a] w fun e w' => (∃ v : Int, e = .returned (.tuple #[.int .i64 v, .int .i64 (shE P Q G H a G)])) ∧ Below w.heap.size w w' := by
  by_cases h : shE P Q G H a G = 0
  · exact (group_Public P Q G H a w h).mono fun e w' ⟨h1, h2⟩ => ⟨⟨_, by rw [h]; exact h1⟩, h2⟩
  · exact (group_Public_no P Q G H a w h).mono fun e w' ⟨h1, h2⟩ => ⟨⟨_, h1⟩, h2⟩
theorem start_any (P Q G H a : Int) (w : World) :
    Calls Try.prog 20 #[.agg #[.int .i64 P, .int .i64 Q, .int .i64 G, .int .i64 H], .int .i64 a] w fun e w' => (∃ v, e = .returned (.tuple #[v, .int .i64 (shE P Q G H a G)])) ∧ Below w.heap.size w w' := by
  by_cases h : shE P Q G H a G = 0
  · exact (shake_Start P Q G H a w h).mono fun e w' ⟨h1, h2⟩ => ⟨⟨_, by rw [h]; exact h1⟩, h2⟩
  · exact shake_Start_no P Q G H a w h
end Go.Proofs.Ytkodhpjmmiapaaa

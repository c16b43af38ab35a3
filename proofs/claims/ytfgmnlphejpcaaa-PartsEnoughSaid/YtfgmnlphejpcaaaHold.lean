/- A region that draws: S is kept behind the operations that D names; one that reads by S may be taken first where every other operation waits for it. -/
import Derived.StillTail
import Derived.Deep.RegionHeld
import Derived.Deep.RegionHeld3
namespace Go.Proofs.Ytfgmnlphejpcaaa
section
variable {P : Program} {ops : Array Oper} {Q : Exit → Act → World → Prop} {md : Region.Mode} {S : World → Prop} {D : Nat → Bool}
def wpD (P : Program) (md : Region.Mode) (ops : Array Oper) (Q : Exit → Act → World → Prop) (S : World → Prop) (D : Nat → Bool) : Nat → Array Bool → Act → World → Prop
  | 0, listed, a, w => Region.ready md ops listed = [] ∧ Q .normal a w
  | fuel + 1, listed, a, w =>
    (Region.ready md ops listed = [] → Q .normal a w) ∧
    ∀ i ∈ Region.ready md ops listed, wpOp P ops Q i (fun a' w' => (D i = true → S w → S w') ∧ wpD P md ops Q S D fuel (listed.setIfInBounds i true) a' w') a w
theorem wpAny_of_D : ∀ (fuel : Nat) (listed : Array Bool) (a : Act) (w : World), wpD P md ops Q S D fuel listed a w → wpAny P md ops Q fuel listed a w
  | 0, _, _, _, h => h
  | fuel + 1, _, _, _, h => ⟨h.1, fun i hi => wpOp_mono (fun a' w' h' => wpAny_of_D fuel _ a' w' h'.2) (h.2 i hi)⟩
/-- what is listed, all that it waits for is listed -/
def ClosedL (md : Region.Mode) (ops : Array Oper) (listed : Array Bool) : Prop :=
  ∀ j oj, ops[j]? = some oj → listed.getD j false = true → ∀ e ∈ oj.after, Region.binds md e = true → listed.getD e.on false = true
theorem ClosedL.set {i : Nat} {listed : Array Bool} (h : ClosedL md ops listed) (hi : i ∈ Region.ready md ops listed) : ClosedL md ops (listed.setIfInBounds i true) := by
  obtain ⟨_, oi, hoi, hall⟩ := mem_ready.1 hi
  intro j oj hj hl e he hb
  by_cases hij : i = j
  · subst hij
    have : oj = oi := Option.some.inj (hj.symm.trans hoi)
    subst this
    exact getD_set_true (hall e he hb)
  · rw [getD_set_ne false hij] at hl
    exact getD_set_true (h j oj hj hl e he hb)
/-- does j wait for i, by however many steps -/
def reachB (md : Region.Mode) (ops : Array Oper) : Nat → Nat → Nat → Bool
  | 0, _, _ => false
  | f + 1, j, i => match ops[j]? with
    | some oj => oj.after.any fun e => Region.binds md e && (e.on == i || reachB md ops f e.on i)
    | none => false
theorem reach_listed {i : Nat} {listed : Array Bool} (hc : ClosedL md ops listed) : ∀ (f j : Nat), listed.getD j false = true → reachB md ops f j i = true → listed.getD i false = true := by
  intro f
  induction f with
  | zero => intro j _ h; cases h
  | succ f ih =>
    intro j hj h
    unfold reachB at h
    split at h
    · rename_i oj hoj
      obtain ⟨e, he, hb⟩ := Array.any_eq_true'.1 h
      simp only [Bool.and_eq_true, Bool.or_eq_true, beq_iff_eq] at hb
      have hl := hc j oj hoj hj e he hb.1
      rcases hb.2 with rfl | h2
      · exact hl
      · exact ih e.on hl h2
    · cases h
theorem reach_ready {i j f : Nat} {listed : Array Bool} (hc : ClosedL md ops listed) (hj : j ∈ Region.ready md ops listed) (h : reachB md ops f j i = true) : listed.getD i false = true := by
  obtain ⟨_, oj, hoj, hall⟩ := mem_ready.1 hj
  cases f with
  | zero => cases h
  | succ f =>
    unfold reachB at h
    rw [hoj] at h
    obtain ⟨e, he, hb⟩ := Array.any_eq_true'.1 h
    simp only [Bool.and_eq_true, Bool.or_eq_true, beq_iff_eq] at hb
    have hl := hall e he hb.1
    rcases hb.2 with rfl | h2
    · exact hl
    · exact reach_listed hc f e.on hl h2
theorem wpD_first {S' : World → Prop} {i : Nat} {oi : Oper} {v : Value} (hi : ops[i]? = some oi) (hsel : ∀ (j : Nat) (o : Oper) cs b, ops[j]? = some o → o.op ≠ .select cs b)
    (hQ : ∀ c a w, Q (.panic c) (a.put oi.dst v) w → Q (.panic c) a w)
    (hD : (∀ w, S' w) ∨ ((∀ w, S w → S' w) ∧ ∀ j, j < ops.size → D j = false → reachB md ops ops.size j i = true)) :
    ∀ (fuel : Nat) (listed : Array Bool) (a : Act) (w : World), ClosedL md ops listed →
      (∀ j oj, ops[j]? = some oj → j ≠ i → listed.getD j true = false → (∀ e ∈ oj.after, Region.binds md e = true → e.on ≠ i) → oi.apart ops oj = true) →
      i ∈ Region.ready md ops listed → YieldsIf P ops S' oi v a → ((∀ w, S' w) ∨ S w) →
      wpD P md ops Q S D fuel (listed.setIfInBounds i true) (a.put oi.dst v) w → wpD P md ops Q S D (fuel + 1) listed a w := by
  have hSS : ∀ w, ((∀ w, S' w) ∨ S w) → S' w := fun w h => by
    rcases h with h | h
    · exact h w
    · rcases hD with h2 | h2
      · exact h2 w
      · exact h2.1 w h
  intro fuel
  induction fuel with
  | zero =>
    intro listed a w inv _ hr hy hS H
    refine ⟨fun h => (by rw [h] at hr; cases hr), fun j hj => ?_⟩
    by_cases hji : j = i
    · subst hji; exact hy.wpOp hi (hSS w hS) ⟨fun _ h => h, H⟩
    · have := ready_mono hj hji
      rw [H.1] at this
      cases this
  | succ fuel ih =>
    intro listed a w inv hfree hr hy hS H
    refine ⟨fun h => (by rw [h] at hr; cases hr), fun j hj => ?_⟩
    by_cases hji : j = i
    · subst hji; exact hy.wpOp hi (hSS w hS) ⟨fun _ h => h, H⟩
    · have h1 := H.2 j (ready_mono hj hji)
      obtain ⟨hjun, oj, hoj, hall⟩ := mem_ready.1 hj
      have hiun := (mem_ready.1 hr).1
      have hnot : ∀ e ∈ oj.after, Region.binds md e = true → e.on ≠ i := fun e he hb heq => by
        have h1 := hall e he hb
        rw [heq, getD_both hiun] at h1
        cases h1
      have h2 := wpOp_putIf hoj (hfree j oj hoj hji hjun hnot) (fun cs b => hsel i oi cs b hi) (fun cs b => hsel j oj cs b hoj) hQ hy h1
      have hfree' : ∀ k ok, ops[k]? = some ok → k ≠ i → (listed.setIfInBounds j true).getD k true = false →
          (∀ e ∈ ok.after, Region.binds md e = true → e.on ≠ i) → oi.apart ops ok = true := fun k ok hk hki hun hno => by
        refine hfree k ok hk hki ?_ hno
        by_cases hjk : j = k
        · subst hjk; exact hjun
        · rw [getD_set_ne true hjk] at hun; exact hun
      have hjlt : j < ops.size := (Array.getElem?_eq_some_iff.1 hoj).1
      have hDj : (∀ w, S' w) ∨ D j = true := by
        rcases hD with h | ⟨h, h'⟩
        · exact .inl h
        · right
          cases hd : D j with
          | true => rfl
          | false =>
            have := reach_ready inv hj (h' j hjlt hd)
            rw [getD_both hiun] at this
            cases this
      refine wpOp_mono (fun a' w' h3 => ⟨h3.2.1, ih (listed.setIfInBounds j true) a' w' (inv.set hj) hfree' (ready_mono hr (Ne.symm hji)) h3.1 ?_ ?_⟩) h2
      · rcases hDj with h | hd
        · exact .inl h
        · rcases hS with h | h
          · exact .inl h
          · exact .inr (h3.2.1 hd h)
      · rw [Array.setIfInBounds_comm _ _ hji]
        exact h3.2.2
/-- the same, with what the places listed so far keep -/
def WD (P : Program) (md : Region.Mode) (ops : Array Oper) (Q : Exit → Act → World → Prop) (S : World → Prop) (D : Nat → Bool) (fuel : Nat) (listed : Array Bool) (a : Act) (w : World) : Prop :=
  ClosedL md ops listed → wpD P md ops Q S D fuel listed a w
/-- an operation that yields in whatever world is taken first -/
theorem WD_free {i : Nat} {oi : Oper} {v : Value} {fuel : Nat} {listed : Array Bool} {a : Act} {w : World} (hi : ops[i]? = some oi)
    (hB : (Region.noSelect ops && Region.free md ops listed i && (Region.ready md ops listed).contains i) = true)
    (hQ : ∀ c a w, Q (.panic c) (a.put oi.dst v) w → Q (.panic c) a w) (hy : YieldsIf P ops (fun _ => True) oi v a)
    (h : WD P md ops Q S D fuel (listed.setIfInBounds i true) (a.put oi.dst v) w) : WD P md ops Q S D (fuel + 1) listed a w := fun inv => by
  simp only [Bool.and_eq_true] at hB
  obtain ⟨⟨h1, h6⟩, h7⟩ := hB
  exact wpD_first (S' := fun _ => True) hi (Region.noSelect_spec h1) hQ (.inl fun _ => trivial) fuel listed a w inv (Region.free_spec hi h6) (by simpa using h7) hy (.inl fun _ => trivial) (h (inv.set (by simpa using h7)))
/-- one that reads by S is taken first -/
theorem WD_take {i : Nat} {oi : Oper} {v : Value} {fuel : Nat} {listed : Array Bool} {a : Act} {w : World} (hi : ops[i]? = some oi)
    (hB : (Region.noSelect ops && Region.free md ops listed i && (Region.ready md ops listed).contains i && (List.range ops.size).all fun j => D j || reachB md ops ops.size j i) = true)
    (hQ : ∀ c a w, Q (.panic c) (a.put oi.dst v) w → Q (.panic c) a w) (hy : YieldsIf P ops S oi v a) (hS : S w)
    (h : WD P md ops Q S D fuel (listed.setIfInBounds i true) (a.put oi.dst v) w) : WD P md ops Q S D (fuel + 1) listed a w := fun inv => by
  simp only [Bool.and_eq_true] at hB
  obtain ⟨⟨⟨h1, h6⟩, h7⟩, h8⟩ := hB
  refine wpD_first (S' := S) hi (Region.noSelect_spec h1) hQ (.inr ⟨fun _ h => h, fun j hj hd => ?_⟩) fuel listed a w inv (Region.free_spec hi h6) (by simpa using h7) hy (.inr hS) (h (inv.set (by simpa using h7)))
  have := List.all_eq_true.1 h8 j (List.mem_range.2 hj)
  rw [hd, Bool.false_or] at this
  exact this
/-- the only one that may come up comes up -/
theorem WD_step {i : Nat} {o : Oper} {fuel : Nat} {listed : Array Bool} {a : Act} {w : World} (ho : ops[i]? = some o)
    (hB : decide (Region.ready md ops listed = [i]) = true)
    (h : ∀ K' : Act → World → Prop, Shut (∀ a w', (D i = true → S w → S w') → WD P md ops Q S D fuel (listed.setIfInBounds i true) a w' → K' a w') → if Region.wanted o (yielded ops a.tmps) = true then Oper.wp P o a w K' Q else K' (a.put o.dst undef) w) :
    WD P md ops Q S D (fuel + 1) listed a w := fun inv => by
  simp only [decide_eq_true_eq] at hB
  refine ⟨fun h0 => (by rw [hB] at h0; cases h0), fun j hj => ?_⟩
  have hj' : j = i := by rw [hB] at hj; simpa using hj
  subst hj'
  exact wpOp_step ho (fun K' hK => h K' (fun a w' hS hW => hK a w' ⟨hS, hW (inv.set hj)⟩))
theorem WD_done {listed : Array Bool} {a : Act} {w : World} (hr : (Region.ready md ops listed).isEmpty = true) (h : Q .normal a w) : ∀ fuel, WD P md ops Q S D fuel listed a w
  | 0 => fun _ => ⟨by simpa using hr, h⟩
  | _ + 1 => fun _ => ⟨fun _ => h, by rw [show Region.ready md ops listed = [] by simpa using hr]; simp⟩
/-- the beginning -/
theorem wp_region_D {id : Nat} {a : Act} {w : World} (D : Nat → Bool) (hm : P.follows .mixedOrders = true) (hS : S w.drew)
    (h : S w.drew → WD P .any ops Q S D ops.size (Array.replicate ops.size false) a w.drew) : (Code.region id ops true).wp P Q a w :=
  wp_region_any hm (wpAny_of_D _ _ _ _ (h hS fun j oj _ hl => by rw [getD_replicate_false] at hl; cases hl))
end
end Go.Proofs.Ytfgmnlphejpcaaa

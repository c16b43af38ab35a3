/- Plain: the hops that make a way longer, alone. The reference's GroupAsk without members; may. -/
import Derived.Test.YtkodhpjmmiapaaaSqF
namespace Go.Proofs.Ytkodhpjmmiapaaa
open Go.RowKit
set_option linter.unusedVariables false
set_option linter.unusedSimpArgs false
def isE (h : Hp) : Bool := decide (h.kind = 1)
def toldF : List Hp → List (Int × List Nat) → List (Int × List Nat)
  | h :: L, r :: R => if isE h = true then r :: toldF L R else toldF L R
  | _, _ => []
theorem hopF_ks {P Q G : Int} {S : List Int} {st : St} {x : Hp} (h : isE x = false) : (hopF P Q G S st x).1.ks = st.ks := by
  have h1 : ¬ x.kind = 1 := by simpa [isE] using h
  unfold hopF
  rw [if_neg h1]
  split
  · unfold sndF; split <;> rfl
  · split
    · unfold backF'; split <;> rfl
    · rfl
theorem hopF_ext {P Q G : Int} {S : List Int} {st st' : St} {x : Hp} (h : isE x = true) (he : st.ks = st'.ks) : (hopF P Q G S st x).2 = (hopF P Q G S st' x).2 ∧ (hopF P Q G S st x).1.ks = (hopF P Q G S st' x).1.ks := by
  have h1 : x.kind = 1 := by simpa [isE] using h
  unfold hopF
  rw [if_pos h1, if_pos h1]
  unfold extF
  rw [he]
  split
  · exact ⟨rfl, he⟩
  · split
    · exact ⟨rfl, he⟩
    · split
      · exact ⟨rfl, he⟩
      · exact ⟨rfl, rfl⟩
/-- whatever is sent between changes no key -/
theorem run_alone (P Q G : Int) (S : List Int) : ∀ (L : List Hp) (st st' : St), st.ks = st'.ks → (runF P Q G S st' (L.filter isE)).1 = toldF L (runF P Q G S st L).1
  | [], st, st', he => rfl
  | h :: L, st, st', he => by
    cases hk : isE h with
    | true =>
      rw [List.filter_cons_of_pos (by simpa using hk)]
      obtain ⟨e1, e2⟩ := hopF_ext (P := P) (Q := Q) (G := G) (S := S) hk he
      simp only [runF, toldF, hk, if_true]
      rw [run_alone P Q G S L _ _ e2, e1]
    | false =>
      rw [List.filter_cons_of_neg (by simp [hk])]
      simp only [runF, toldF, hk]
      rw [run_alone P Q G S L (hopF P Q G S st h).1 st' ((hopF_ks hk).trans he)]
      rfl
theorem toldF_snoc : ∀ (A : List Hp) (B : List (Int × List Nat)) (x : Hp) (r : Int × List Nat), A.length = B.length → toldF (A ++ [x]) (B ++ [r]) = toldF A B ++ (if isE x = true then [r] else [])
  | [], [], x, r, _ => by simp [toldF]
  | [], _ :: _, x, r, h => by simp at h
  | _ :: _, [], x, r, h => by simp at h
  | a :: A, b :: B, x, r, h => by
    have := toldF_snoc A B x r (by simpa using h)
    simp only [List.cons_append, toldF]
    rw [this]
    cases isE a <;> simp
/-- what a hop that makes longer tells, and what it does -/
theorem ext_says {P Q G : Int} {S : List Int} {st : St} {x : Hp} (h : isE x = true) (hl : st.ks.length ≤ S.length) :
    ((hopF P Q G S st x).2.1 = 0 ↔ (0 ≤ x.k ∧ x.k < Q ∧ 0 ≤ x.l ∧ x.l < Q) ∧ st.ks.length < S.length) ∧ ((hopF P Q G S st x).2.1 = 0 → (hopF P Q G S st x).2.2.length = 2 ∧ (hopF P Q G S st x).1.ks.length = st.ks.length + 1) ∧ (¬ (hopF P Q G S st x).2.1 = 0 → (hopF P Q G S st x).1.ks.length = st.ks.length) := by
  have h1 : x.kind = 1 := by simpa [isE] using h
  unfold hopF
  rw [if_pos h1]
  unfold extF
  split
  · rename_i hf
    refine ⟨⟨fun e => by simp at e, fun e => by omega⟩, fun e => by simp at e, fun _ => rfl⟩
  · split
    · refine ⟨⟨fun e => by simp at e, fun e => by omega⟩, fun e => by simp at e, fun _ => rfl⟩
    · split
      · refine ⟨⟨fun e => by simp at e, fun e => by omega⟩, fun e => by simp at e, fun _ => rfl⟩
      · refine ⟨⟨fun _ => by omega, fun _ => rfl⟩, fun _ => ⟨rfl, by simp⟩, fun e => absurd rfl e⟩
end Go.Proofs.Ytkodhpjmmiapaaa

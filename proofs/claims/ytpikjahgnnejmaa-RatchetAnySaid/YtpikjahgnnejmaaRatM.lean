/- Plain: a script as ratchet.Play plays it; what comes is what was sent, once each. -/
import Derived.Test.YtpikjahgnnejmaaRatO
import Derived.Test.YtpikjahgnnejmaaPost
namespace Go.Proofs.Ytpikjahgnnejmaa
set_option linter.unusedVariables false
set_option linter.unusedSimpArgs false
/-- who sends and who takes -/
structure RS where
  sent : List Nat
  at' : Nat
  kept : List Nat
/-- one post -/
def stepR (k0 most : Nat) (S : RS) (p : Po) : (Int × Int) × RS :=
  if p.kind = 1 then
    if p.n < 0 ∨ 65536 ≤ p.n then ((2, 0), S)
    else ((0, ((p.n.toNat ^^^ msgN k0 S.sent.length : Nat) : Int)), { S with sent := S.sent ++ [p.n.toNat] })
  else if p.kind ≠ 2 then ((6, 0), S)
  else if p.msg < 0 ∨ (S.sent.length : Int) ≤ p.msg then ((3, 0), S)
  else
    let R := openN k0 most S.at' S.kept p.msg.toNat
    ((R.1.2, if R.1.2 = 0 then ((S.sent.getD p.msg.toNat 0 : Nat) : Int) else 0), { S with at' := R.2.1, kept := R.2.2 })
def playR (k0 most : Nat) (S : RS) : List Po → List (Int × Int) × RS
  | [] => ([], S)
  | p :: t => ((stepR k0 most S p).1 :: (playR k0 most (stepR k0 most S p).2 t).1, (playR k0 most (stepR k0 most S p).2 t).2)
theorem playR_snoc (k0 most : Nat) (p : Po) : ∀ (l : List Po) (S : RS), playR k0 most S (l ++ [p]) = ((playR k0 most S l).1 ++ [(stepR k0 most (playR k0 most S l).2 p).1], (stepR k0 most (playR k0 most S l).2 p).2)
  | [], S => rfl
  | q :: t, S => by
    show ((stepR k0 most S q).1 :: (playR k0 most (stepR k0 most S q).2 (t ++ [p])).1, (playR k0 most (stepR k0 most S q).2 (t ++ [p])).2) = _
    rw [playR_snoc k0 most p t]
    rfl
theorem playR_len (k0 most : Nat) : ∀ (l : List Po) (S : RS), (playR k0 most S l).1.length = l.length
  | [], S => rfl
  | q :: t, S => by show (_ :: _).length = _; simp [playR_len k0 most t]
def rs0 : RS := ⟨[], 0, []⟩
/-- what holds all along -/
structure RInv (S : RS) (m : Nat) : Prop where
  nd : S.kept.Nodup
  lt : ∀ i ∈ S.kept, i < S.at'
  len : S.sent.length ≤ m
  atl : S.at' ≤ S.sent.length
  val : ∀ x ∈ S.sent, x < 65536
theorem RInv.init : RInv rs0 0 := ⟨List.nodup_nil, (fun i h => by cases h), Nat.le_refl _, Nat.le_refl _, (fun i h => by cases h)⟩
theorem nodup_lt {l : List Nat} (h : l.Nodup) {A : Nat} (hl : ∀ i ∈ l, i < A) : l.length ≤ A := by
  induction A generalizing l with
  | zero =>
    cases l with
    | nil => exact Nat.le_refl _
    | cons x t => exact absurd (hl x (by simp)) (Nat.not_lt_zero _)
  | succ A ih =>
    by_cases hm : A ∈ l
    · have h2 := ih (h.erase A) fun i hi => by
        rw [h.mem_erase_iff] at hi
        have := hl i hi.2
        have := hi.1
        omega
      rw [List.length_erase_of_mem hm] at h2
      omega
    · have h2 := ih h fun i hi => by
        have := hl i hi
        have : i ≠ A := fun e => hm (e ▸ hi)
        omega
      omega
theorem openN_facts {k0 most A n : Nat} {K : List Nat} (hd : K.Nodup) (hl : ∀ i ∈ K, i < A) :
    (openN k0 most A K n).2.2.Nodup ∧ (∀ i ∈ (openN k0 most A K n).2.2, i < (openN k0 most A K n).2.1) ∧ A ≤ (openN k0 most A K n).2.1 ∧ (openN k0 most A K n).2.1 ≤ max A (n + 1) := by
  unfold openN
  by_cases h1 : n < A
  · rw [if_pos h1]
    by_cases h2 : n ∈ K
    · rw [if_pos h2]; exact ⟨hd.erase n, fun i hi => hl i (List.mem_of_mem_erase hi), Nat.le_refl _, Nat.le_max_left _ _⟩
    · rw [if_neg h2]; exact ⟨hd, hl, Nat.le_refl _, Nat.le_max_left _ _⟩
  · rw [if_neg h1]
    by_cases h2 : most < K.length + n - A
    · rw [if_pos h2]; exact ⟨hd, hl, Nat.le_refl _, Nat.le_max_left _ _⟩
    · rw [if_neg h2]
      refine ⟨List.nodup_append.2 ⟨hd, ?_, fun a ha b hb => ?_⟩, fun i hi => ?_, by show A ≤ n + 1; omega, Nat.le_max_right _ _⟩
      · rw [List.Nodup, List.pairwise_map]
        exact List.nodup_range.imp fun h e => h (by omega)
      · obtain ⟨c, hc, rfl⟩ := List.mem_map.1 hb
        have := hl a ha
        omega
      · show i < n + 1
        rcases List.mem_append.1 hi with h | h
        · have := hl i h; omega
        · obtain ⟨c, hc, rfl⟩ := List.mem_map.1 h
          have := List.mem_range.1 hc; omega
theorem RInv.step {k0 most m : Nat} {S : RS} (h : RInv S m) (p : Po) : RInv (stepR k0 most S p).2 (m + 1) := by
  unfold stepR
  by_cases h1 : p.kind = 1
  · rw [if_pos h1]
    by_cases h2 : p.n < 0 ∨ 65536 ≤ p.n
    · rw [if_pos h2]; exact ⟨h.nd, h.lt, Nat.le_succ_of_le h.len, h.atl, h.val⟩
    · rw [if_neg h2]
      refine ⟨h.nd, h.lt, by simp; exact h.len, by simp; have := h.atl; omega, fun x hx => ?_⟩
      rcases List.mem_append.1 hx with hx | hx
      · exact h.val x hx
      · rw [List.mem_singleton.1 hx]; omega
  · rw [if_neg h1]
    by_cases h2 : p.kind ≠ 2
    · rw [if_pos h2]; exact ⟨h.nd, h.lt, Nat.le_succ_of_le h.len, h.atl, h.val⟩
    · rw [if_neg h2]
      by_cases h3 : p.msg < 0 ∨ (S.sent.length : Int) ≤ p.msg
      · rw [if_pos h3]; exact ⟨h.nd, h.lt, Nat.le_succ_of_le h.len, h.atl, h.val⟩
      · rw [if_neg h3]
        obtain ⟨f1, f2, f3, f4⟩ := openN_facts (k0 := k0) (most := most) (n := p.msg.toNat) h.nd h.lt
        have h4 : p.msg.toNat + 1 ≤ S.sent.length := by omega
        exact ⟨f1, f2, Nat.le_succ_of_le h.len, Nat.le_trans f4 (Nat.max_le.2 ⟨h.atl, h4⟩), h.val⟩
end Go.Proofs.Ytpikjahgnnejmaa

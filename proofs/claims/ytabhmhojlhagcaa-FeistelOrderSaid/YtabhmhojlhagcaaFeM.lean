/- Plain: Feistel's rounds, there and back. -/
import Derived.Test.YtabhmhojlhagcaaFeW
namespace Go.Proofs.Ytabhmhojlhagcaa
set_option linter.unusedVariables false
set_option linter.unusedSimpArgs false
/-- a round's number at a place -/
def atN (r : List Int) (i : Nat) : Nat := (r.getD i 0).toNat
def stepF (r : List Int) (lr : Nat × Nat) : Nat × Nat := (lr.2, lr.1 ^^^ atN r lr.2)
def backF (r : List Int) (lr : Nat × Nat) : Nat × Nat := (lr.2 ^^^ atN r lr.1, lr.1)
def sealP (rows : List (List Int)) (lr : Nat × Nat) : Nat × Nat := rows.foldl (fun lr r => stepF r lr) lr
def openP (rows : List (List Int)) (lr : Nat × Nat) : Nat × Nat := rows.foldr backF lr
def prN (x : Nat) : Nat × Nat := (x / 16, x % 16)
def unN (lr : Nat × Nat) : Nat := lr.1 * 16 + lr.2
def sealN (rows : List (List Int)) (x : Nat) : Nat := unN (sealP rows (prN x))
def openN (rows : List (List Int)) (x : Nat) : Nat := unN (openP rows (prN x))
def swN (x : Nat) : Nat := x % 16 * 16 + x / 16
def In16 (lr : Nat × Nat) : Prop := lr.1 < 16 ∧ lr.2 < 16
theorem xor_cancel (a b : Nat) : (a ^^^ b) ^^^ b = a := by rw [Nat.xor_assoc, Nat.xor_self, Nat.xor_zero]
theorem back_step (r : List Int) (lr : Nat × Nat) : backF r (stepF r lr) = lr := by
  unfold backF stepF; simp only; rw [xor_cancel]
theorem step_back (r : List Int) (lr : Nat × Nat) : stepF r (backF r lr) = lr := by
  unfold backF stepF; simp only; rw [xor_cancel]
theorem open_seal : ∀ (rows : List (List Int)) (lr : Nat × Nat), openP rows (sealP rows lr) = lr
  | [], _ => rfl
  | r :: t, lr => by
    show backF r (openP t (sealP t (stepF r lr))) = lr
    rw [open_seal t, back_step]
theorem seal_open : ∀ (rows : List (List Int)) (lr : Nat × Nat), sealP rows (openP rows lr) = lr
  | [], _ => rfl
  | r :: t, lr => by
    show sealP t (stepF r (backF r (openP t lr))) = lr
    rw [step_back, seal_open t]
theorem atN_lt {rows : List (List Int)} (h : Rnd rows) {r : List Int} (hr : r ∈ rows) (i : Nat) : atN r i < 16 := by
  unfold atN
  rw [List.getD_eq_getElem?_getD]
  cases e : r[i]? with
  | none => decide
  | some v =>
    have := h.rng r hr v (List.mem_of_getElem? e)
    simp; omega
theorem In16.step {rows : List (List Int)} (h : Rnd rows) {r : List Int} (hr : r ∈ rows) {lr : Nat × Nat} (hl : In16 lr) : In16 (stepF r lr) :=
  ⟨hl.2, Nat.xor_lt_two_pow (n := 4) hl.1 (atN_lt h hr _)⟩
theorem In16.back {rows : List (List Int)} (h : Rnd rows) {r : List Int} (hr : r ∈ rows) {lr : Nat × Nat} (hl : In16 lr) : In16 (backF r lr) :=
  ⟨Nat.xor_lt_two_pow (n := 4) hl.2 (atN_lt h hr _), hl.1⟩
theorem In16.seal' {rows : List (List Int)} (h : Rnd rows) : ∀ {l : List (List Int)} {lr : Nat × Nat}, (∀ r ∈ l, r ∈ rows) → In16 lr → In16 (sealP l lr)
  | [], _, _, hl => hl
  | r :: t, lr, ht, hl => In16.seal' h (l := t) (fun s hs => ht s (by simp [hs])) (In16.step h (ht r (by simp)) hl)
theorem In16.open' {rows : List (List Int)} (h : Rnd rows) : ∀ {l : List (List Int)} {lr : Nat × Nat}, (∀ r ∈ l, r ∈ rows) → In16 lr → In16 (openP l lr)
  | [], _, _, hl => hl
  | r :: t, lr, ht, hl => In16.back h (ht r (by simp)) (In16.open' h (l := t) (fun s hs => ht s (by simp [hs])) hl)
theorem In16.pr {x : Nat} (h : x < 256) : In16 (prN x) := ⟨by show x / 16 < 16; omega, by show x % 16 < 16; omega⟩
theorem unN_lt {lr : Nat × Nat} (h : In16 lr) : unN lr < 256 := by obtain ⟨h1, h2⟩ := h; unfold unN; omega
theorem pr_un {lr : Nat × Nat} (h : In16 lr) : prN (unN lr) = lr := by
  obtain ⟨h1, h2⟩ := h
  obtain ⟨l, r⟩ := lr
  simp only at h1 h2
  unfold prN unN
  simp only [Prod.mk.injEq]
  omega
theorem un_pr (x : Nat) : unN (prN x) = x := by unfold unN prN; simp only; omega
theorem sealN_lt {rows : List (List Int)} (h : Rnd rows) {x : Nat} (hx : x < 256) : sealN rows x < 256 := unN_lt (In16.seal' h (fun _ h => h) (In16.pr hx))
theorem openN_lt {rows : List (List Int)} (h : Rnd rows) {x : Nat} (hx : x < 256) : openN rows x < 256 := unN_lt (In16.open' h (fun _ h => h) (In16.pr hx))
theorem openN_sealN {rows : List (List Int)} (h : Rnd rows) {x : Nat} (hx : x < 256) : openN rows (sealN rows x) = x := by
  unfold openN sealN
  rw [pr_un (In16.seal' h (fun _ h => h) (In16.pr hx)), open_seal, un_pr]
theorem sealN_openN {rows : List (List Int)} (h : Rnd rows) {x : Nat} (hx : x < 256) : sealN rows (openN rows x) = x := by
  unfold openN sealN
  rw [pr_un (In16.open' h (fun _ h => h) (In16.pr hx)), seal_open, un_pr]
def swP (lr : Nat × Nat) : Nat × Nat := (lr.2, lr.1)
theorem back_sw (r : List Int) (lr : Nat × Nat) : backF r lr = swP (stepF r (swP lr)) := rfl
theorem openP_sw : ∀ (rows : List (List Int)) (lr : Nat × Nat), openP rows lr = swP (sealP rows.reverse (swP lr))
  | [], _ => rfl
  | r :: t, lr => by
    show backF r (openP t lr) = _
    rw [openP_sw t, back_sw]
    have : swP (swP (sealP t.reverse (swP lr))) = sealP t.reverse (swP lr) := rfl
    rw [this, List.reverse_cons]
    unfold sealP
    rw [List.foldl_append]
    rfl
theorem swN_lt {x : Nat} (h : x < 256) : swN x < 256 := by unfold swN; omega
theorem prN_sw {x : Nat} (h : x < 256) : prN (swN x) = swP (prN x) := by unfold prN swN swP; simp only [Prod.mk.injEq]; omega
theorem unN_sw {lr : Nat × Nat} (h : In16 lr) : unN (swP lr) = swN (unN lr) := by
  obtain ⟨h1, h2⟩ := h
  unfold unN swN swP; simp only; omega
theorem Rnd.reverse {rows : List (List Int)} (h : Rnd rows) : Rnd rows.reverse := ⟨by rw [List.length_reverse]; exact h.len, fun r hr => h.row r (List.mem_reverse.1 hr), fun r hr => h.rng r (List.mem_reverse.1 hr)⟩
theorem openN_turned {rows : List (List Int)} (h : Rnd rows) {x : Nat} (hx : x < 256) : openN rows x = swN (sealN rows.reverse (swN x)) := by
  unfold openN sealN
  rw [openP_sw, prN_sw hx, unN_sw]
  exact In16.seal' h.reverse (fun _ h => h) ⟨(In16.pr hx).2, (In16.pr hx).1⟩
end Go.Proofs.Ytabhmhojlhagcaa

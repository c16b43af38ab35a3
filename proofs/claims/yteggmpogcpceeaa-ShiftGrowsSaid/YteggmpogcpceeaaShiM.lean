/- Plain: rules of rows of bits: Massey's bound, and the shortest rule by Berlekamp and Massey. -/
namespace Go.Proofs.Yteggmpogcpceeaa
namespace Sh
set_option linter.unusedVariables false
set_option linter.unusedSimpArgs false
/-- bits as a number -/
def wordOf (f : Nat → Bool) : Nat → Nat
  | 0 => 0
  | k + 1 => if f k = true then wordOf f k ||| (1 <<< k) else wordOf f k
theorem one_shift_bit (k i : Nat) : ((1 : Nat) <<< k).testBit i = decide (k = i) := by
  rw [Nat.testBit_shiftLeft]
  by_cases h : k = i
  · subst h; simp
  · rw [decide_eq_false h]
    by_cases c : k ≤ i
    · have : (1 : Nat).testBit (i - k) = false := Nat.testBit_lt_two_pow (Nat.one_lt_two_pow (by omega))
      rw [this, Bool.and_false]
    · rw [decide_eq_false (by omega), Bool.false_and]
theorem wordOf_bit (f : Nat → Bool) (i : Nat) : ∀ k, (wordOf f k).testBit i = (decide (i < k) && f i)
  | 0 => by
    show (0 : Nat).testBit i = _
    rw [Nat.zero_testBit, decide_eq_false (by omega), Bool.false_and]
  | k + 1 => by
    show (if f k = true then wordOf f k ||| (1 <<< k) else wordOf f k).testBit i = _
    by_cases e : k = i
    · subst e
      rw [decide_eq_true (by omega), Bool.true_and]
      cases h : f k with
      | true => rw [if_pos rfl, Nat.testBit_or, one_shift_bit, decide_eq_true rfl, Bool.or_true]
      | false => rw [if_neg (by simp), wordOf_bit f k k, decide_eq_false (by omega), Bool.false_and]
    · have hd : decide (i < k + 1) = decide (i < k) := by
        by_cases c : i < k
        · rw [decide_eq_true c, decide_eq_true (by omega)]
        · rw [decide_eq_false c, decide_eq_false (by omega)]
      rw [hd]
      cases h : f k with
      | true => rw [if_pos rfl, Nat.testBit_or, one_shift_bit, decide_eq_false e, Bool.or_false, wordOf_bit f i k]
      | false => rw [if_neg (by simp), wordOf_bit f i k]
theorem wordOf_lt (f : Nat → Bool) (k : Nat) : wordOf f k < 2 ^ k := Nat.lt_pow_two_of_testBit _ fun i hi => by
  rw [wordOf_bit, decide_eq_false (by omega), Bool.false_and]
theorem wordOf_congr {f g : Nat → Bool} (k : Nat) (h : ∀ i, i < k → f i = g i) : wordOf f k = wordOf g k := Nat.eq_of_testBit_eq fun i => by
  rw [wordOf_bit, wordOf_bit]
  by_cases c : i < k
  · rw [h i c]
  · rw [decide_eq_false c]; rfl
/-- the sum of products of bits -/
def dot (a b : Nat → Bool) : Nat → Bool
  | 0 => false
  | k + 1 => Bool.xor (dot a b k) (a k && b k)
theorem dot_congr {a a' b b' : Nat → Bool} : ∀ k, (∀ i, i < k → (a i && b i) = (a' i && b' i)) → dot a b k = dot a' b' k
  | 0, _ => rfl
  | k + 1, h => by
    show Bool.xor (dot a b k) (a k && b k) = Bool.xor (dot a' b' k) (a' k && b' k)
    rw [dot_congr k fun i hi => h i (by omega), h k (by omega)]
theorem dot_false {a b : Nat → Bool} : ∀ k, (∀ i, i < k → (a i && b i) = false) → dot a b k = false
  | 0, _ => rfl
  | k + 1, h => by
    show Bool.xor (dot a b k) (a k && b k) = false
    rw [dot_false k fun i hi => h i (by omega), h k (by omega)]; rfl
theorem xor4 (a b c d : Bool) : Bool.xor (Bool.xor a b) (Bool.xor c d) = Bool.xor (Bool.xor a c) (Bool.xor b d) := by
  cases a <;> cases b <;> cases c <;> cases d <;> rfl
theorem dot_xor (a b c : Nat → Bool) : ∀ k, dot a (fun i => Bool.xor (b i) (c i)) k = Bool.xor (dot a b k) (dot a c k)
  | 0 => rfl
  | k + 1 => by
    show Bool.xor (dot a (fun i => Bool.xor (b i) (c i)) k) (a k && Bool.xor (b k) (c k)) = Bool.xor (Bool.xor (dot a b k) (a k && b k)) (Bool.xor (dot a c k) (a k && c k))
    rw [dot_xor a b c k, xor4]
    congr 1
    cases a k <;> cases b k <;> cases c k <;> rfl
theorem dot_comm (a b : Nat → Bool) (k : Nat) : dot a b k = dot b a k := dot_congr' k
  where dot_congr' : ∀ k, dot a b k = dot b a k
  | 0 => rfl
  | k + 1 => by
    show Bool.xor (dot a b k) (a k && b k) = Bool.xor (dot b a k) (b k && a k)
    rw [dot_congr' k, Bool.and_comm]
theorem xor_dot (a b c : Nat → Bool) (k : Nat) : dot (fun i => Bool.xor (b i) (c i)) a k = Bool.xor (dot b a k) (dot c a k) := by
  rw [dot_comm, dot_xor, dot_comm a b, dot_comm a c]
theorem dot_and (a b : Nat → Bool) (x : Bool) : ∀ k, dot a (fun i => x && b i) k = (x && dot a b k)
  | 0 => by cases x <;> rfl
  | k + 1 => by
    show Bool.xor (dot a (fun i => x && b i) k) (a k && (x && b k)) = (x && Bool.xor (dot a b k) (a k && b k))
    rw [dot_and a b x k]
    cases x <;> cases a k <;> cases b k <;> cases dot a b k <;> rfl
/-- two sums in the other order -/
theorem dot_swap (a b : Nat → Bool) (f : Nat → Nat → Bool) (l : Nat) : ∀ k, dot a (fun i => dot b (f i) l) k = dot b (fun j => dot a (fun i => f i j) k) l
  | 0 => (dot_false l fun i _ => by show (b i && false) = false; cases b i <;> rfl).symm
  | k + 1 => by
    show Bool.xor (dot a (fun i => dot b (f i) l) k) (a k && dot b (f k) l) = _
    rw [dot_swap a b f l k, ← dot_and, ← dot_xor]
    rfl
/-- a sum that is longer by nothing -/
theorem dot_more {a b : Nat → Bool} (k : Nat) : ∀ j, (∀ i, k ≤ i → i < k + j → (a i && b i) = false) → dot a b (k + j) = dot a b k
  | 0, _ => rfl
  | j + 1, h => by
    show Bool.xor (dot a b (k + j)) (a (k + j) && b (k + j)) = _
    rw [dot_more k j fun i h1 h2 => h i h1 (by omega), h (k + j) (by omega) (by omega), Bool.xor_false]
theorem dot_to {a b : Nat → Bool} {k m : Nat} (hk : k ≤ m) (h : ∀ i, k ≤ i → i < m → (a i && b i) = false) : dot a b m = dot a b k := by
  have := dot_more (a := a) (b := b) k (m - k) fun i h1 h2 => h i h1 (by omega)
  rwa [show k + (m - k) = m by omega] at this
/-- a sum without its first -/
theorem dot_head (a b : Nat → Bool) : ∀ k, dot a b (k + 1) = Bool.xor (a 0 && b 0) (dot (fun i => a (i + 1)) (fun i => b (i + 1)) k)
  | 0 => by
    show Bool.xor false (a 0 && b 0) = Bool.xor (a 0 && b 0) false
    cases (a 0 && b 0) <;> rfl
  | k + 1 => by
    show Bool.xor (dot a b (k + 1)) (a (k + 1) && b (k + 1)) = Bool.xor (a 0 && b 0) (Bool.xor (dot (fun i => a (i + 1)) (fun i => b (i + 1)) k) (a (k + 1) && b (k + 1)))
    rw [dot_head a b k]
    cases (a 0 && b 0) <;> cases dot (fun i => a (i + 1)) (fun i => b (i + 1)) k <;> cases (a (k + 1) && b (k + 1)) <;> rfl
/-- a sum without its first ones, that are none -/
theorem dot_skip (a b : Nat → Bool) (k : Nat) : ∀ j, (∀ i, i < j → (a i && b i) = false) → dot a b (j + k) = dot (fun i => a (i + j)) (fun i => b (i + j)) k
  | 0, _ => by rw [Nat.zero_add]; rfl
  | j + 1, h => by
    rw [show j + 1 + k = (j + k) + 1 by omega, dot_head, h 0 (by omega), Bool.false_xor]
    have := dot_skip (fun i => a (i + 1)) (fun i => b (i + 1)) k j fun i hi => h (i + 1) (by omega)
    rw [this]
    refine dot_congr k fun i _ => ?_
    show (a (i + j + 1) && b (i + j + 1)) = (a (i + (j + 1)) && b (i + (j + 1)))
    rfl
/-- what a rule of so many taps says is next -/
def nxt (t : Nat → Bool) (L : Nat) (s : Nat → Bool) (n : Nat) : Bool := dot t (fun i => s (n - 1 - i)) L
/-- a rule makes a row -/
def Mk (t : Nat → Bool) (L : Nat) (s : Nat → Bool) (n : Nat) : Prop := ∀ m, L ≤ m → m < n → s m = nxt t L s m
theorem Mk.mono {t : Nat → Bool} {L : Nat} {s : Nat → Bool} {n k : Nat} (h : Mk t L s n) (hk : k ≤ n) : Mk t L s k := fun m h1 h2 => h m h1 (by omega)
theorem Mk.succ {t : Nat → Bool} {L : Nat} {s : Nat → Bool} {n : Nat} (h : Mk t L s n) (he : L ≤ n → s n = nxt t L s n) : Mk t L s (n + 1) := fun m h1 h2 => by
  rcases Nat.lt_succ_iff_lt_or_eq.1 h2 with c | c
  · exact h m h1 c
  · subst c; exact he h1
theorem nxt_congr {t t' s s' : Nat → Bool} {L n : Nat} (ht : ∀ i, i < L → t i = t' i) (hs : ∀ i, i < n → s i = s' i) (hn : L ≤ n) : nxt t L s n = nxt t' L s' n :=
  dot_congr L fun i hi => by
    show (t i && s (n - 1 - i)) = (t' i && s' (n - 1 - i))
    rw [ht i hi, hs (n - 1 - i) (by omega)]
theorem Mk.congr {t t' s s' : Nat → Bool} {L n : Nat} (h : Mk t L s n) (ht : ∀ i, i < L → t i = t' i) (hs : ∀ i, i < n → s i = s' i) : Mk t' L s' n := fun m h1 h2 => by
  rw [← hs m h2, h m h1 h2]
  exact nxt_congr ht (fun i hi => hs i (by omega)) h1
/-- Massey's bound -/
theorem bound {t t' s : Nat → Bool} {L L' n : Nat} (h : Mk t L s n) (h' : Mk t' L' s (n + 1)) (hf : ¬ s n = nxt t L s n) : n + 1 ≤ L + L' := by
  refine Decidable.byContradiction fun hc => hf ?_
  have hl : L + L' ≤ n := by omega
  have e1 : nxt t L s n = dot t (fun i => dot t' (fun j => s (n - 1 - i - 1 - j)) L') L := dot_congr L fun i hi => by
    show (t i && s (n - 1 - i)) = (t i && dot t' (fun j => s (n - 1 - i - 1 - j)) L')
    rw [h' (n - 1 - i) (by omega) (by omega)]; rfl
  have e2 : nxt t' L' s n = dot t' (fun j => dot t (fun i => s (n - 1 - j - 1 - i)) L) L' := dot_congr L' fun j hj => by
    show (t' j && s (n - 1 - j)) = (t' j && dot t (fun i => s (n - 1 - j - 1 - i)) L)
    rw [h (n - 1 - j) (by omega) (by omega)]; rfl
  rw [h' n (by omega) (by omega), e1, e2, dot_swap t t' (fun i j => s (n - 1 - i - 1 - j))]
  refine dot_congr L' fun j hj => ?_
  show (t' j && dot t (fun i => s (n - 1 - j - 1 - i)) L) = (t' j && dot t (fun i => s (n - 1 - i - 1 - j)) L)
  congr 1
  refine dot_congr L fun i hi => ?_
  show (t i && s (n - 1 - j - 1 - i)) = (t i && s (n - 1 - i - 1 - j))
  rw [show n - 1 - j - 1 - i = n - 1 - i - 1 - j by omega]
/-- how long the shortest rule of a row is -/
structure Min (s : Nat → Bool) (n L : Nat) : Prop where
  le : L ≤ n
  ex : ∃ t, Mk t L s n
  least : ∀ t' L', L' ≤ n → Mk t' L' s n → L ≤ L'
theorem Min.uniq {s : Nat → Bool} {n L L' : Nat} (h : Min s n L) (h' : Min s n L') : L = L' := by
  obtain ⟨t, ht⟩ := h.ex
  obtain ⟨t', ht'⟩ := h'.ex
  have := h.least t' L' h'.le ht'
  have := h'.least t L h.le ht
  omega
theorem Min.congr {s s' : Nat → Bool} {n L : Nat} (h : Min s n L) (hs : ∀ i, i < n → s i = s' i) : Min s' n L := by
  obtain ⟨t, ht⟩ := h.ex
  exact ⟨h.le, ⟨t, ht.congr (fun _ _ => rfl) hs⟩, fun t' L' h1 h2 => h.least t' L' h1 (h2.congr (fun _ _ => rfl) fun i hi => (hs i hi).symm)⟩
/-- a rule that is as short as can be, of a row twice as long, is the only one -/
theorem only {s t t' : Nat → Bool} {n L : Nat} (h : Min s n L) (ht : Mk t L s n) (ht' : Mk t' L s n) (hn : 2 * L ≤ n) : ∀ i, i < L → t i = t' i := by
  refine Classical.byContradiction fun hc => ?_
  have hex : ∃ i, i < L ∧ t i ≠ t' i := Classical.byContradiction fun hh => hc fun i hi => Decidable.byContradiction fun hne => hh ⟨i, hi, hne⟩
  obtain ⟨i0, h0, hne, hmin⟩ : ∃ i, i < L ∧ t i ≠ t' i ∧ ∀ j, j < i → t j = t' j := by
    obtain ⟨i, hi⟩ := hex
    induction i using Nat.strongRecOn with
    | _ i ih =>
      by_cases hj : ∃ j, j < i ∧ t j ≠ t' j
      · obtain ⟨j, j1, j2⟩ := hj
        exact ih j j1 ⟨by omega, j2⟩
      · exact ⟨i, hi.1, hi.2, fun j h1 => Decidable.byContradiction fun h2 => hj ⟨j, h1, h2⟩⟩
  -- the rule of what differs
  have hd : Mk (fun j => Bool.xor (t (j + (i0 + 1))) (t' (j + (i0 + 1)))) (L - (i0 + 1)) s (n - (i0 + 1)) := by
    intro m h1 h2
    have e1 := ht (m + (i0 + 1)) (by omega) (by omega)
    have e2 := ht' (m + (i0 + 1)) (by omega) (by omega)
    have e3 : dot (fun i => Bool.xor (t i) (t' i)) (fun i => s (m + (i0 + 1) - 1 - i)) L = false := by
      rw [xor_dot]
      unfold nxt at e1 e2
      rw [← e1, ← e2]
      cases s (m + (i0 + 1)) <;> rfl
    rw [show L = i0 + (L - (i0 + 1) + 1) by omega, dot_skip _ _ _ i0 (fun i hi => by
      show (Bool.xor (t i) (t' i) && _) = false
      rw [hmin i hi]; cases t' i <;> rfl), dot_head] at e3
    have e4 : (Bool.xor (t (0 + i0)) (t' (0 + i0)) && s (m + (i0 + 1) - 1 - (0 + i0))) = s m := by
      rw [Nat.zero_add, show m + (i0 + 1) - 1 - i0 = m by omega]
      cases e : t i0 <;> cases e' : t' i0 <;> first | exact absurd (e.trans e'.symm) hne | (cases s m <;> rfl)
    simp only [e4] at e3
    have e5 : s m = dot (fun i => Bool.xor (t (i + 1 + i0)) (t' (i + 1 + i0))) (fun i => s (m + (i0 + 1) - 1 - (i + 1 + i0))) (L - (i0 + 1)) := by
      revert e3
      generalize dot (fun i => Bool.xor (t (i + 1 + i0)) (t' (i + 1 + i0))) (fun i => s (m + (i0 + 1) - 1 - (i + 1 + i0))) (L - (i0 + 1)) = q
      cases s m <;> cases q <;> simp
    rw [e5]
    refine dot_congr _ fun i hi => ?_
    show (Bool.xor (t (i + 1 + i0)) (t' (i + 1 + i0)) && s (m + (i0 + 1) - 1 - (i + 1 + i0))) = (Bool.xor (t (i + (i0 + 1))) (t' (i + (i0 + 1))) && s (m - 1 - i))
    rw [show i + 1 + i0 = i + (i0 + 1) by omega, show m + (i0 + 1) - 1 - (i + (i0 + 1)) = m - 1 - i by omega]
  -- it makes the row for ever, or is bound to be long
  have hall : ∀ k, n - (i0 + 1) ≤ k → k ≤ n → Mk (fun j => Bool.xor (t (j + (i0 + 1))) (t' (j + (i0 + 1)))) (L - (i0 + 1)) s k := by
    intro k
    induction k with
    | zero => intro h1 h2; exact hd.mono (by omega)
    | succ k ih =>
      intro h1 h2
      by_cases hk : n - (i0 + 1) ≤ k
      · have hm := ih hk (by omega)
        refine hm.succ fun hl => Decidable.byContradiction fun hne => ?_
        have := bound hm (ht.mono (k := k + 1) (by omega)) hne
        omega
      · exact hd.mono (by omega)
  have := h.least _ _ (by omega) (hall n (by omega) (Nat.le_refl n))
  omega
/-- the polynomial of a rule, against a row -/
def disc (C : Nat → Bool) (s : Nat → Bool) (n : Nat) : Bool := dot C (fun i => s (n - i)) (n + 1)
theorem disc_nxt {C s : Nat → Bool} {L n : Nat} (h0 : C 0 = true) (hC : ∀ i, L < i → C i = false) (hn : L ≤ n) : disc C s n = Bool.xor (s n) (nxt (fun i => C (i + 1)) L s n) := by
  unfold disc
  rw [dot_head, h0, Nat.sub_zero, Bool.true_and, dot_to hn (fun i h1 _ => by
    show (C (i + 1) && _) = false
    rw [hC (i + 1) (by omega)]; rfl)]
  congr 1
  refine dot_congr L fun i hi => ?_
  show (C (i + 1) && s (n - (i + 1))) = (C (i + 1) && s (n - 1 - i))
  rw [show n - (i + 1) = n - 1 - i by omega]
def up (C B : Nat → Bool) (k : Nat) : Nat → Bool := fun i => Bool.xor (C i) (decide (k ≤ i) && B (i - k))
theorem disc_up (C B s : Nat → Bool) {k n : Nat} (h : k ≤ n) : disc (up C B k) s n = Bool.xor (disc C s n) (disc B s (n - k)) := by
  unfold disc up
  rw [xor_dot]
  congr 1
  rw [show n + 1 = k + (n - k + 1) by omega, dot_skip _ _ _ k (fun i hi => by
    show ((decide (k ≤ i) && B (i - k)) && _) = false
    rw [decide_eq_false (by omega)]; rfl)]
  refine dot_congr _ fun i hi => ?_
  show ((decide (k ≤ i + k) && B (i + k - k)) && s (n - (i + k))) = (B i && s (n - k - i))
  rw [decide_eq_true (by omega), Bool.true_and, Nat.add_sub_cancel, show n - (i + k) = n - k - i by omega]
/-- what stands behind the bits that were seen: the polynomial, the one from before the length last changed, the length, and how long ago -/
structure Inv (s : Nat → Bool) (n : Nat) (C B : Nat → Bool) (L k : Nat) : Prop where
  c0 : C 0 = true
  deg : ∀ i, L < i → C i = false
  le : L ≤ n
  gen : ∀ m, L ≤ m → m < n → disc C s m = false
  least : ∀ t' L', L' ≤ n → Mk t' L' s n → L ≤ L'
  old : (L = 0 ∧ k = n + 1 ∧ B 0 = true ∧ ∀ i, 0 < i → B i = false) ∨
    ∃ n' M, k + n' = n ∧ 0 < k ∧ L + M = n' + 1 ∧ M ≤ n' ∧ (∀ i, M < i → B i = false) ∧ (∀ m, M ≤ m → m < n' → disc B s m = false) ∧ disc B s n' = true
theorem Inv.mk' {s C B : Nat → Bool} {n L k : Nat} (h : Inv s n C B L k) : Mk (fun i => C (i + 1)) L s n := fun m h1 h2 => by
  have e := h.gen m h1 h2
  rw [disc_nxt h.c0 h.deg h1] at e
  revert e
  cases s m <;> cases nxt (fun i => C (i + 1)) L s m <;> simp
theorem Inv.min {s C B : Nat → Bool} {n L k : Nat} (h : Inv s n C B L k) : Min s n L := ⟨h.le, ⟨_, h.mk'⟩, h.least⟩
theorem Inv.init (s : Nat → Bool) {C B : Nat → Bool} (hC : C 0 = true) (hC' : ∀ i, 0 < i → C i = false) (hB : B 0 = true) (hB' : ∀ i, 0 < i → B i = false) : Inv s 0 C B 0 1 :=
  ⟨hC, hC', Nat.le_refl 0, fun m _ h => by omega, fun _ _ _ _ => Nat.zero_le _, .inl ⟨rfl, rfl, hB, hB'⟩⟩
theorem least_succ {s : Nat → Bool} {n L : Nat} (hl : L ≤ n) (h : ∀ t' L', L' ≤ n → Mk t' L' s n → L ≤ L') : ∀ t' L', L' ≤ n + 1 → Mk t' L' s (n + 1) → L ≤ L' := fun t' L' h1 h2 => by
  by_cases c : L' ≤ n
  · exact h t' L' c (h2.mono (by omega))
  · omega
theorem Inv.same {s C B : Nat → Bool} {n L k : Nat} (h : Inv s n C B L k) (hd : disc C s n = false) : Inv s (n + 1) C B L (k + 1) := by
  refine ⟨h.c0, h.deg, by have := h.le; omega, fun m h1 h2 => ?_, least_succ h.le h.least, ?_⟩
  · rcases Nat.lt_succ_iff_lt_or_eq.1 h2 with c | c
    · exact h.gen m h1 c
    · subst c; exact hd
  · rcases h.old with ⟨a, b, c, d⟩ | ⟨n', M, a, b, c, d⟩
    · exact .inl ⟨a, by omega, c, d⟩
    · exact .inr ⟨n', M, by omega, by omega, c, d⟩
theorem Inv.k_pos {s C B : Nat → Bool} {n L k : Nat} (h : Inv s n C B L k) : 0 < k ∧ k ≤ n + 1 := by
  rcases h.old with ⟨a, b, c, d⟩ | ⟨n', M, a, b, c, d⟩ <;> omega
theorem Inv.up_facts {s C B : Nat → Bool} {n L k : Nat} (h : Inv s n C B L k) (hd : disc C s n = true) {L' : Nat} (h1 : L ≤ L') (h2 : n + 1 ≤ L + L') (h3 : L' ≤ n + 1) :
    up C B k 0 = true ∧ (∀ i, L' < i → up C B k i = false) ∧ ∀ m, L' ≤ m → m < n + 1 → disc (up C B k) s m = false := by
  have hk := h.k_pos
  refine ⟨?_, fun i hi => ?_, fun m m1 m2 => ?_⟩
  · unfold up; rw [decide_eq_false (by omega), h.c0]; rfl
  · unfold up
    rw [h.deg i (by omega), Bool.false_xor]
    rcases h.old with ⟨a, b, c, d⟩ | ⟨n', M, a, b, c, d, e, f, g⟩
    · rw [d (i - k) (by omega), Bool.and_false]
    · rw [e (i - k) (by omega), Bool.and_false]
  · rcases h.old with ⟨a, b, c, d⟩ | ⟨n', M, a, b, c, d, e, f, g⟩
    · omega
    · rw [disc_up C B s (by omega)]
      rcases Nat.lt_succ_iff_lt_or_eq.1 m2 with c' | c'
      · rw [h.gen m (by omega) c', f (m - k) (by omega) (by omega)]; rfl
      · subst c'
        rw [hd, show m - k = n' by omega, g]; rfl
/-- the length stays -/
theorem Inv.stay {s C B : Nat → Bool} {n L k : Nat} (h : Inv s n C B L k) (hd : disc C s n = true) (hl : n < 2 * L) : Inv s (n + 1) (up C B k) B L (k + 1) := by
  have hle := h.le
  obtain ⟨f1, f2, f3⟩ := h.up_facts hd (Nat.le_refl L) (by omega) (by omega)
  refine ⟨f1, f2, by omega, f3, least_succ h.le h.least, ?_⟩
  rcases h.old with ⟨a, b, c, d⟩ | ⟨n', M, a, b, c, d⟩
  · omega
  · exact .inr ⟨n', M, by omega, by omega, c, d⟩
/-- the length grows -/
theorem Inv.grow {s C B : Nat → Bool} {n L k : Nat} (h : Inv s n C B L k) (hd : disc C s n = true) (hl : 2 * L ≤ n) : Inv s (n + 1) (up C B k) C (n + 1 - L) 1 := by
  have hle := h.le
  obtain ⟨f1, f2, f3⟩ := h.up_facts hd (L' := n + 1 - L) (by omega) (by omega) (by omega)
  refine ⟨f1, f2, by omega, f3, fun t' L' h1 h2 => ?_, .inr ⟨n, L, by omega, by omega, by omega, hle, h.deg, h.gen, hd⟩⟩
  have hne : ¬ s n = nxt (fun i => C (i + 1)) L s n := fun e => by
    rw [disc_nxt h.c0 h.deg hle, e] at hd
    revert hd
    cases nxt (fun i => C (i + 1)) L s n <;> simp
  have := bound h.mk' h2 hne
  omega
/-- what the shortest rule's length is behind one bit more -/
theorem grows {s t C B : Nat → Bool} {n L k U : Nat} (h : Inv s n C B L k) (hU : Min s (n + 1) U) (ht : Mk t L s n) :
    (s n = nxt t L s n → U = L) ∧ (¬ s n = nxt t L s n → U = max L (n + 1 - L)) := by
  have hle := h.le
  have hUle := hU.le
  obtain ⟨u, hu⟩ := hU.ex
  have hLU : L ≤ U := by
    by_cases c : U ≤ n
    · exact h.least u U c (hu.mono (by omega))
    · omega
  refine ⟨fun e => ?_, fun e => ?_⟩
  · have := hU.least t L (by omega) (ht.succ fun _ => e)
    omega
  · have hb := bound ht hu e
    have hor : U = L ∨ U = n + 1 - L := by
      cases hd : disc C s n with
      | false => exact .inl (hU.uniq (h.same hd).min)
      | true =>
        by_cases c : 2 * L ≤ n
        · exact .inr (hU.uniq (h.grow hd c).min)
        · exact .inl (hU.uniq (h.stay hd (by omega)).min)
    omega
end Sh
end Go.Proofs.Yteggmpogcpceeaa

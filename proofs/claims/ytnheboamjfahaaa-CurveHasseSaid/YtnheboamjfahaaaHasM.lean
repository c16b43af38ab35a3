/- Plain: Hasse's bound for every curve whose prime is at most 1009: all of them are counted, those with one A and any B at once, by the digits of a great number. -/
import Derived.Test.YtnheboamjfahaaaCurLM
namespace Go.Proofs.Ytnheboamjfahaaa
namespace Hs
set_option linter.unusedVariables false
set_option linter.unusedSimpArgs false
noncomputable def sumN (f : Nat → Nat) (n : Nat) : Nat := Nat.rec (motive := fun _ => Nat) 0 (fun k s => Nat.add (f k) s) n
noncomputable def lorN (f : Nat → Nat) (n : Nat) : Nat := Nat.rec (motive := fun _ => Nat) 0 (fun k s => Nat.lor (f k) s) n
noncomputable def allN (f : Nat → Bool) (n : Nat) : Bool := Nat.rec (motive := fun _ => Bool) true (fun k s => cond (f k) s false) n
noncomputable def force (n : Nat) (k : Nat → Bool) : Bool := Nat.rec (motive := fun _ => Bool) (k 0) (fun m _ => k (Nat.succ m)) n
/-- the squares, from the greatest down, twice -/
noncomputable def sqT (p : Nat) : Nat := sumN (fun y => Nat.add (Nat.shiftLeft 1 (Nat.mul 21 (Nat.sub (Nat.sub p 1) (Nat.mod (Nat.mul y y) p)))) (Nat.shiftLeft 1 (Nat.mul 21 (Nat.sub (Nat.sub (Nat.mul 2 p) 1) (Nat.mod (Nat.mul y y) p))))) p
noncomputable def rA (T p a : Nat) : Nat := sumN (fun x => Nat.shiftLeft T (Nat.mul 21 (Nat.mod (Nat.add (Nat.mul (Nat.mul x x) x) (Nat.mul a x)) p))) p
noncomputable def dig (R p b : Nat) : Nat := Nat.mod (Nat.shiftRight R (Nat.mul 21 (Nat.sub (Nat.sub (Nat.mul 2 p) 1) b))) 2097152
noncomputable def okC (c p : Nat) : Bool := Nat.ble (Nat.add (Nat.mul c c) (Nat.mul p p)) (Nat.add (Nat.mul 4 p) (Nat.mul (Nat.mul 2 c) p))
noncomputable def okA (p T a : Nat) : Bool := force (rA T p a) fun R => allN (fun b => okC (dig R p b) p) p
noncomputable def cov (p r : Nat) : Nat := lorN (fun u => Nat.shiftLeft 1 (Nat.mod (Nat.mul (Nat.mul (Nat.mul u u) (Nat.mul u u)) r) p)) p
noncomputable def covL (p : Nat) : List Nat → Nat
  | [] => 0
  | r :: l => Nat.lor (cov p r) (covL p l)
noncomputable def okP (p : Nat) (l : List Nat) : Bool := Nat.beq (covL p l) (Nat.sub (Nat.pow 2 p) 1) && force (sqT p) fun T => okA p T 0 && l.all (okA p T)
noncomputable def okL (l : List (Nat × List Nat)) : Bool := l.all fun q => okP q.1 q.2
theorem ok_0 : okL [(5, [1, 2, 3, 4]), (7, [1, 3]), (11, [1, 2]), (13, [1, 2, 4, 7]), (17, [1, 2, 3, 6]), (19, [1, 2])] = true := by decide +kernel
theorem ok_1 : okL [(23, [1, 5]), (29, [1, 2, 4, 8]), (31, [1, 3]), (37, [1, 2, 3, 5]), (41, [1, 2, 3, 6]), (43, [1, 2])] = true := by decide +kernel
theorem ok_2 : okL [(47, [1, 5]), (53, [1, 2, 4, 5]), (59, [1, 2]), (61, [1, 2, 3, 6]), (67, [1, 2]), (71, [1, 7])] = true := by decide +kernel
theorem ok_3 : okL [(73, [1, 3, 5, 11]), (79, [1, 3]), (83, [1, 2]), (89, [1, 3, 5, 13]), (97, [1, 2, 5, 7]), (101, [1, 2, 4, 8])] = true := by decide +kernel
theorem ok_4 : okL [(103, [1, 3]), (107, [1, 2]), (109, [1, 2, 4, 8]), (113, [1, 3, 5, 9]), (127, [1, 3]), (131, [1, 2])] = true := by decide +kernel
theorem ok_5 : okL [(137, [1, 2, 3, 5]), (139, [1, 2]), (149, [1, 2, 3, 4]), (151, [1, 3]), (157, [1, 2, 3, 6]), (163, [1, 2])] = true := by decide +kernel
theorem ok_6 : okL [(167, [1, 5]), (173, [1, 2, 3, 4]), (179, [1, 2]), (181, [1, 2, 4, 7]), (191, [1, 7]), (193, [1, 2, 5, 10])] = true := by decide +kernel
theorem ok_7 : okL [(197, [1, 2, 4, 8]), (199, [1, 3]), (211, [1, 2]), (223, [1, 3]), (227, [1, 2]), (229, [1, 2, 4, 7])] = true := by decide +kernel
theorem ok_8 : okL [(233, [1, 3, 7, 17]), (239, [1, 7]), (241, [1, 2, 7, 13]), (251, [1, 2]), (257, [1, 3, 5, 9]), (263, [1, 5])] = true := by decide +kernel
theorem ok_9 : okL [(269, [1, 2, 4, 7]), (271, [1, 3]), (277, [1, 2, 4, 5]), (281, [1, 3, 5, 15]), (283, [1, 2]), (293, [1, 2, 4, 8])] = true := by decide +kernel
theorem ok_10 : okL [(307, [1, 2]), (311, [1, 11]), (313, [1, 2, 5, 10]), (317, [1, 2, 4, 5]), (331, [1, 2]), (337, [1, 3, 5, 11])] = true := by decide +kernel
theorem ok_11 : okL [(347, [1, 2]), (349, [1, 2, 3, 6]), (353, [1, 3, 7, 9]), (359, [1, 7]), (367, [1, 3]), (373, [1, 2, 3, 6])] = true := by decide +kernel
theorem ok_12 : okL [(379, [1, 2]), (383, [1, 5]), (389, [1, 2, 3, 4]), (397, [1, 2, 3, 5]), (401, [1, 2, 3, 6]), (409, [1, 2, 7, 11])] = true := by decide +kernel
theorem ok_13 : okL [(419, [1, 2]), (421, [1, 2, 4, 8]), (431, [1, 7]), (433, [1, 2, 5, 10]), (439, [1, 3]), (443, [1, 2])] = true := by decide +kernel
theorem ok_14 : okL [(449, [1, 2, 3, 6]), (457, [1, 2, 5, 10]), (461, [1, 2, 3, 4]), (463, [1, 3]), (467, [1, 2]), (479, [1, 13])] = true := by decide +kernel
theorem ok_15 : okL [(487, [1, 3]), (491, [1, 2]), (499, [1, 2]), (503, [1, 5]), (509, [1, 2, 4, 7]), (521, [1, 2, 3, 6])] = true := by decide +kernel
theorem ok_16 : okL [(523, [1, 2]), (541, [1, 2, 4, 8]), (547, [1, 2]), (557, [1, 2, 3, 4]), (563, [1, 2]), (569, [1, 2, 3, 6])] = true := by decide +kernel
theorem ok_17 : okL [(571, [1, 2]), (577, [1, 5, 11, 13]), (587, [1, 2]), (593, [1, 3, 5, 9]), (599, [1, 7]), (601, [1, 5, 7, 29])] = true := by decide +kernel
theorem ok_18 : okL [(607, [1, 3]), (613, [1, 2, 3, 5]), (617, [1, 3, 7, 17]), (619, [1, 2]), (631, [1, 3]), (641, [1, 2, 3, 6])] = true := by decide +kernel
theorem ok_19 : okL [(643, [1, 2]), (647, [1, 5]), (653, [1, 2, 3, 4]), (659, [1, 2]), (661, [1, 2, 3, 6]), (673, [1, 2, 5, 10])] = true := by decide +kernel
theorem ok_20 : okL [(677, [1, 2, 3, 4]), (683, [1, 2]), (691, [1, 2]), (701, [1, 2, 4, 8]), (709, [1, 2, 4, 8]), (719, [1, 11])] = true := by decide +kernel
theorem ok_21 : okL [(727, [1, 3]), (733, [1, 2, 4, 5]), (739, [1, 2]), (743, [1, 5]), (751, [1, 3]), (757, [1, 2, 4, 5])] = true := by decide +kernel
theorem ok_22 : okL [(761, [1, 2, 3, 6]), (769, [1, 2, 7, 11]), (773, [1, 2, 4, 5]), (787, [1, 2]), (797, [1, 2, 3, 4]), (809, [1, 2, 3, 6])] = true := by decide +kernel
theorem ok_23 : okL [(811, [1, 2]), (821, [1, 2, 4, 8]), (823, [1, 3]), (827, [1, 2]), (829, [1, 2, 4, 8]), (839, [1, 11])] = true := by decide +kernel
theorem ok_24 : okL [(853, [1, 2, 3, 5]), (857, [1, 2, 3, 6]), (859, [1, 2]), (863, [1, 5]), (877, [1, 2, 3, 6]), (881, [1, 3, 5, 7])] = true := by decide +kernel
theorem ok_25 : okL [(883, [1, 2]), (887, [1, 5]), (907, [1, 2]), (911, [1, 7]), (919, [1, 3]), (929, [1, 2, 3, 6])] = true := by decide +kernel
theorem ok_26 : okL [(937, [1, 5, 7, 17]), (941, [1, 2, 3, 4]), (947, [1, 2]), (953, [1, 2, 3, 5]), (967, [1, 3]), (971, [1, 2])] = true := by decide +kernel
theorem ok_27 : okL [(977, [1, 2, 3, 6]), (983, [1, 5]), (991, [1, 3]), (997, [1, 2, 3, 6]), (1009, [1, 2, 11, 22])] = true := by decide +kernel
def allL : List (Nat × List Nat) := [(5, [1, 2, 3, 4]), (7, [1, 3]), (11, [1, 2]), (13, [1, 2, 4, 7]), (17, [1, 2, 3, 6]), (19, [1, 2])] ++ [(23, [1, 5]), (29, [1, 2, 4, 8]), (31, [1, 3]), (37, [1, 2, 3, 5]), (41, [1, 2, 3, 6]), (43, [1, 2])] ++ [(47, [1, 5]), (53, [1, 2, 4, 5]), (59, [1, 2]), (61, [1, 2, 3, 6]), (67, [1, 2]), (71, [1, 7])] ++ [(73, [1, 3, 5, 11]), (79, [1, 3]), (83, [1, 2]), (89, [1, 3, 5, 13]), (97, [1, 2, 5, 7]), (101, [1, 2, 4, 8])] ++ [(103, [1, 3]), (107, [1, 2]), (109, [1, 2, 4, 8]), (113, [1, 3, 5, 9]), (127, [1, 3]), (131, [1, 2])] ++ [(137, [1, 2, 3, 5]), (139, [1, 2]), (149, [1, 2, 3, 4]), (151, [1, 3]), (157, [1, 2, 3, 6]), (163, [1, 2])] ++ [(167, [1, 5]), (173, [1, 2, 3, 4]), (179, [1, 2]), (181, [1, 2, 4, 7]), (191, [1, 7]), (193, [1, 2, 5, 10])] ++ [(197, [1, 2, 4, 8]), (199, [1, 3]), (211, [1, 2]), (223, [1, 3]), (227, [1, 2]), (229, [1, 2, 4, 7])] ++ [(233, [1, 3, 7, 17]), (239, [1, 7]), (241, [1, 2, 7, 13]), (251, [1, 2]), (257, [1, 3, 5, 9]), (263, [1, 5])] ++ [(269, [1, 2, 4, 7]), (271, [1, 3]), (277, [1, 2, 4, 5]), (281, [1, 3, 5, 15]), (283, [1, 2]), (293, [1, 2, 4, 8])] ++ [(307, [1, 2]), (311, [1, 11]), (313, [1, 2, 5, 10]), (317, [1, 2, 4, 5]), (331, [1, 2]), (337, [1, 3, 5, 11])] ++ [(347, [1, 2]), (349, [1, 2, 3, 6]), (353, [1, 3, 7, 9]), (359, [1, 7]), (367, [1, 3]), (373, [1, 2, 3, 6])] ++ [(379, [1, 2]), (383, [1, 5]), (389, [1, 2, 3, 4]), (397, [1, 2, 3, 5]), (401, [1, 2, 3, 6]), (409, [1, 2, 7, 11])] ++ [(419, [1, 2]), (421, [1, 2, 4, 8]), (431, [1, 7]), (433, [1, 2, 5, 10]), (439, [1, 3]), (443, [1, 2])] ++ [(449, [1, 2, 3, 6]), (457, [1, 2, 5, 10]), (461, [1, 2, 3, 4]), (463, [1, 3]), (467, [1, 2]), (479, [1, 13])] ++ [(487, [1, 3]), (491, [1, 2]), (499, [1, 2]), (503, [1, 5]), (509, [1, 2, 4, 7]), (521, [1, 2, 3, 6])] ++ [(523, [1, 2]), (541, [1, 2, 4, 8]), (547, [1, 2]), (557, [1, 2, 3, 4]), (563, [1, 2]), (569, [1, 2, 3, 6])] ++ [(571, [1, 2]), (577, [1, 5, 11, 13]), (587, [1, 2]), (593, [1, 3, 5, 9]), (599, [1, 7]), (601, [1, 5, 7, 29])] ++ [(607, [1, 3]), (613, [1, 2, 3, 5]), (617, [1, 3, 7, 17]), (619, [1, 2]), (631, [1, 3]), (641, [1, 2, 3, 6])] ++ [(643, [1, 2]), (647, [1, 5]), (653, [1, 2, 3, 4]), (659, [1, 2]), (661, [1, 2, 3, 6]), (673, [1, 2, 5, 10])] ++ [(677, [1, 2, 3, 4]), (683, [1, 2]), (691, [1, 2]), (701, [1, 2, 4, 8]), (709, [1, 2, 4, 8]), (719, [1, 11])] ++ [(727, [1, 3]), (733, [1, 2, 4, 5]), (739, [1, 2]), (743, [1, 5]), (751, [1, 3]), (757, [1, 2, 4, 5])] ++ [(761, [1, 2, 3, 6]), (769, [1, 2, 7, 11]), (773, [1, 2, 4, 5]), (787, [1, 2]), (797, [1, 2, 3, 4]), (809, [1, 2, 3, 6])] ++ [(811, [1, 2]), (821, [1, 2, 4, 8]), (823, [1, 3]), (827, [1, 2]), (829, [1, 2, 4, 8]), (839, [1, 11])] ++ [(853, [1, 2, 3, 5]), (857, [1, 2, 3, 6]), (859, [1, 2]), (863, [1, 5]), (877, [1, 2, 3, 6]), (881, [1, 3, 5, 7])] ++ [(883, [1, 2]), (887, [1, 5]), (907, [1, 2]), (911, [1, 7]), (919, [1, 3]), (929, [1, 2, 3, 6])] ++ [(937, [1, 5, 7, 17]), (941, [1, 2, 3, 4]), (947, [1, 2]), (953, [1, 2, 3, 5]), (967, [1, 3]), (971, [1, 2])] ++ [(977, [1, 2, 3, 6]), (983, [1, 5]), (991, [1, 3]), (997, [1, 2, 3, 6]), (1009, [1, 2, 11, 22])]
theorem okL_append {l m : List (Nat × List Nat)} (h : okL l = true) (h' : okL m = true) : okL (l ++ m) = true := by unfold okL at *; rw [List.all_append, h, h']; rfl
theorem ok_all : okL allL = true := (okL_append (okL_append (okL_append (okL_append (okL_append (okL_append (okL_append (okL_append (okL_append (okL_append (okL_append (okL_append (okL_append (okL_append (okL_append (okL_append (okL_append (okL_append (okL_append (okL_append (okL_append (okL_append (okL_append (okL_append (okL_append (okL_append (okL_append ok_0 ok_1) ok_2) ok_3) ok_4) ok_5) ok_6) ok_7) ok_8) ok_9) ok_10) ok_11) ok_12) ok_13) ok_14) ok_15) ok_16) ok_17) ok_18) ok_19) ok_20) ok_21) ok_22) ok_23) ok_24) ok_25) ok_26) ok_27)
theorem all_primes : ∀ k, k < 1010 → (Nat.ble k 4 || (allL.any fun q => Nat.beq q.1 k) || ([2, 3, 5, 7, 11, 13, 17, 19, 23, 29, 31].any fun d => Nat.beq (k % d) 0 && !Nat.beq k d)) = true := by decide +kernel
theorem sumN_zero (f : Nat → Nat) : sumN f 0 = 0 := rfl
theorem sumN_succ (f : Nat → Nat) (n : Nat) : sumN f (n + 1) = f n + sumN f n := rfl
theorem allN_all (f : Nat → Bool) : ∀ n, allN f n = true → ∀ k, k < n → f k = true
  | 0, _, k, hk => by omega
  | n + 1, h, k, hk => by
    have h' : cond (f n) (allN f n) false = true := h
    cases hf : f n with
    | false => rw [hf] at h'; cases h'
    | true =>
      rw [hf] at h'
      rcases Nat.lt_succ_iff_lt_or_eq.1 hk with c | c
      · exact allN_all f n h' k c
      · subst c; exact hf
theorem force_eq (k : Nat → Bool) : ∀ n, force n k = k n
  | 0 => rfl
  | n + 1 => rfl
theorem lorN_bit (f : Nat → Nat) (i : Nat) : ∀ n, (lorN f n).testBit i = true → ∃ u, u < n ∧ (f u).testBit i = true
  | 0, h => by
    have h' : (0 : Nat).testBit i = true := h
    simp at h'
  | n + 1, h => by
    have h' : ((f n) ||| lorN f n).testBit i = true := h
    rw [Nat.testBit_or, Bool.or_eq_true] at h'
    rcases h' with h' | h'
    · exact ⟨n, by omega, h'⟩
    · obtain ⟨u, hu, h2⟩ := lorN_bit f i n h'
      exact ⟨u, by omega, h2⟩
theorem cov_bit {p r a : Nat} (h : (cov p r).testBit a = true) : ∃ u, u < p ∧ u * u * (u * u) * r % p = a := by
  obtain ⟨u, hu, h2⟩ := lorN_bit _ a p h
  refine ⟨u, hu, ?_⟩
  have h3 : (1 <<< (u * u * (u * u) * r % p) : Nat).testBit a = true := h2
  rw [Nat.testBit_shiftLeft, Bool.and_eq_true, decide_eq_true_eq] at h3
  obtain ⟨h4, h5⟩ := h3
  generalize u * u * (u * u) * r % p = e at *
  by_cases c : a - e = 0
  · omega
  · have : (1 : Nat).testBit (a - e) = false := Nat.testBit_lt_two_pow (Nat.one_lt_two_pow c)
    rw [this] at h5
    cases h5
theorem covL_bit {p a : Nat} : ∀ l : List Nat, (covL p l).testBit a = true → ∃ r, r ∈ l ∧ ∃ u, u < p ∧ u * u * (u * u) * r % p = a
  | [], h => by
    have h' : (0 : Nat).testBit a = true := h
    simp at h'
  | r :: l, h => by
    have h' : ((cov p r) ||| covL p l).testBit a = true := h
    rw [Nat.testBit_or, Bool.or_eq_true] at h'
    rcases h' with h' | h'
    · exact ⟨r, by simp, cov_bit h'⟩
    · obtain ⟨s, hs, h2⟩ := covL_bit l h'
      exact ⟨s, by simp [hs], h2⟩
/-- what a number has at a place -/
def Wt (k S c m : Nat) : Prop := ∃ lo hi, S = lo + c * 2 ^ (21 * k) + hi * (2 ^ (21 * k) * 2097152) ∧ lo * 2097152 ≤ m * 2 ^ (21 * k) ∧ c ≤ m
theorem re2 (lo c P hi B lo' c' hi' : Nat) : lo + c * P + hi * (P * B) + (lo' + c' * P + hi' * (P * B)) = lo + lo' + (c + c') * P + (hi + hi') * (P * B) := by grind
theorem re1 (lo c P hi B : Nat) : lo + c * P + hi * (P * B) = lo + P * (c + hi * B) := by grind
theorem Wt.zero (k : Nat) : Wt k 0 0 0 := ⟨0, 0, by simp, by simp, by simp⟩
theorem Wt.add {k S c m S' c' m' : Nat} (h : Wt k S c m) (h' : Wt k S' c' m') : Wt k (S + S') (c + c') (m + m') := by
  obtain ⟨lo, hi, e, h1, h2⟩ := h
  obtain ⟨lo', hi', e', h1', h2'⟩ := h'
  refine ⟨lo + lo', hi + hi', ?_, ?_, by omega⟩
  · rw [e, e']
    exact re2 ..
  · rw [Nat.add_mul, Nat.add_mul]
    exact Nat.add_le_add h1 h1'
theorem Wt.one (k h : Nat) : Wt k (2 ^ (21 * h)) (if h = k then 1 else 0) 1 := by
  by_cases e : h = k
  · rw [if_pos e, e]
    exact ⟨0, 0, by simp, by simp, by omega⟩
  · rw [if_neg e]
    by_cases c : h < k
    · refine ⟨2 ^ (21 * h), 0, by simp, ?_, by omega⟩
      rw [Nat.one_mul, show (2097152 : Nat) = 2 ^ 21 from rfl, ← Nat.pow_add]
      exact Nat.pow_le_pow_right (by omega) (by omega)
    · refine ⟨0, 2 ^ (21 * (h - k - 1)), ?_, by simp, by omega⟩
      rw [show (2097152 : Nat) = 2 ^ 21 from rfl, ← Nat.pow_add, ← Nat.pow_add]
      simp
      congr 1
      omega
theorem Wt.sum {k m : Nat} {f c : Nat → Nat} : ∀ n, (∀ i, i < n → Wt k (f i) (c i) m) → Wt k (sumN f n) (sumN c n) (n * m)
  | 0, _ => by
    rw [Nat.zero_mul]; exact Wt.zero k
  | n + 1, h => by
    rw [sumN_succ, sumN_succ, Nat.succ_mul, Nat.add_comm (n * m) m]
    exact (h n (by omega)).add (Wt.sum n fun i hi => h i (by omega))
theorem Wt.get {k S c m : Nat} (h : Wt k S c m) (hm : m < 2097152) : (S >>> (21 * k)) % 2097152 = c := by
  obtain ⟨lo, hi, e, h1, h2⟩ := h
  rw [Nat.shiftRight_eq_div_pow]
  have hP : 0 < 2 ^ (21 * k) := Nat.pow_pos (by omega)
  generalize 2 ^ (21 * k) = P at *
  have hl : lo < P := by
    have h3 : m * P < 2097152 * P := Nat.mul_lt_mul_of_pos_right hm hP
    have h4 : lo * 2097152 < P * 2097152 := by rw [Nat.mul_comm P]; omega
    exact Nat.lt_of_mul_lt_mul_right h4
  have e2 : S = lo + P * (c + hi * 2097152) := by rw [e]; exact re1 ..
  rw [e2, Nat.add_mul_div_left _ _ hP, Nat.div_eq_of_lt hl, Nat.zero_add, Nat.add_mul_mod_self_right]
  exact Nat.mod_eq_of_lt (by omega)
theorem sumN_mul (f : Nat → Nat) (z : Nat) : ∀ n, sumN f n * z = sumN (fun i => f i * z) n
  | 0 => by rw [sumN_zero, sumN_zero, Nat.zero_mul]
  | n + 1 => by rw [sumN_succ, sumN_succ, Nat.add_mul, sumN_mul f z n]
theorem sumN_congr {f g : Nat → Nat} : ∀ n, (∀ i, i < n → f i = g i) → sumN f n = sumN g n
  | 0, _ => rfl
  | n + 1, h => by rw [sumN_succ, sumN_succ, h n (by omega), sumN_congr n fun i hi => h i (by omega)]
def ind (p a b x y : Nat) : Nat := if y * y % p = (x * x * x + a * x + b) % p then 1 else 0
/-- how many spots a curve has but for the one that is far out -/
noncomputable def pts (p a b : Nat) : Nat := sumN (fun x => sumN (ind p a b x) p) p
theorem ind_place {p b s g : Nat} (hs : s < p) (hg : g < p) (hb : b < p) : (if (p - 1 - s) + g = 2 * p - 1 - b then 1 else 0) + (if (2 * p - 1 - s) + g = 2 * p - 1 - b then 1 else 0) = if s = (g + b) % p then 1 else 0 := by
  have hm : (g + b) % p = if g + b < p then g + b else g + b - p := by
    split
    · exact Nat.mod_eq_of_lt (by omega)
    · rw [Nat.mod_eq_sub_mod (by omega), Nat.mod_eq_of_lt (by omega)]
  rw [hm]
  split <;> split <;> split <;> (try split) <;> omega
theorem dig_eq {p a b : Nat} (hp : 0 < p) (hp2 : p ≤ 1009) (hb : b < p) : dig (rA (sqT p) p a) p b = pts p a b := by
  have hT : ∀ g, Nat.shiftLeft (sqT p) (21 * g) = sumN (fun y => 2 ^ (21 * ((p - 1 - y * y % p) + g)) + 2 ^ (21 * ((2 * p - 1 - y * y % p) + g))) p := by
    intro g
    have h0 : Nat.shiftLeft (sqT p) (21 * g) = sqT p * 2 ^ (21 * g) := Nat.shiftLeft_eq _ _
    rw [h0]
    have h1 : sqT p = sumN (fun y => 2 ^ (21 * (p - 1 - y * y % p)) + 2 ^ (21 * (2 * p - 1 - y * y % p))) p := by
      refine sumN_congr p fun y _ => ?_
      show (1 <<< (21 * (p - 1 - y * y % p)) : Nat) + (1 <<< (21 * (2 * p - 1 - y * y % p)) : Nat) = _
      rw [Nat.shiftLeft_eq, Nat.shiftLeft_eq, Nat.one_mul, Nat.one_mul]
    rw [h1, sumN_mul]
    refine sumN_congr p fun y _ => ?_
    rw [Nat.add_mul, ← Nat.pow_add, ← Nat.pow_add, Nat.mul_add, Nat.mul_add]
  have hW : Wt (2 * p - 1 - b) (rA (sqT p) p a) (pts p a b) (p * (p * 2)) := by
    refine Wt.sum p fun x hx => ?_
    show Wt _ (Nat.shiftLeft (sqT p) (21 * ((x * x * x + a * x) % p))) _ _
    rw [hT]
    refine Wt.sum p fun y hy => ?_
    have hi := (Wt.one (2 * p - 1 - b) ((p - 1 - y * y % p) + (x * x * x + a * x) % p)).add (Wt.one (2 * p - 1 - b) ((2 * p - 1 - y * y % p) + (x * x * x + a * x) % p))
    rw [ind_place (Nat.mod_lt _ hp) (Nat.mod_lt _ hp) hb, Nat.mod_add_mod] at hi
    exact hi
  have hm : p * (p * 2) < 2097152 := by
    have h1 : p * (p * 2) ≤ 1009 * (1009 * 2) := Nat.mul_le_mul hp2 (Nat.mul_le_mul_right 2 hp2)
    omega
  exact hW.get hm
theorem okA_sound {p a : Nat} (hp : 0 < p) (hp2 : p ≤ 1009) (h : okA p (sqT p) a = true) {b : Nat} (hb : b < p) : pts p a b * pts p a b + p * p ≤ 4 * p + 2 * pts p a b * p := by
  unfold okA at h
  rw [force_eq] at h
  have h1 := allN_all _ p h b hb
  have h2 : okC (dig (rA (sqT p) p a) p b) p = true := h1
  rw [dig_eq hp hp2 hb] at h2
  exact Nat.le_of_ble_eq_true h2
theorem okP_sound {p : Nat} {l : List Nat} (hp : 0 < p) (hp2 : p ≤ 1009) (h : okP p l = true) : (∀ b, b < p → pts p 0 b * pts p 0 b + p * p ≤ 4 * p + 2 * pts p 0 b * p) ∧ ∀ a, a < p → ∃ r u, u * u * (u * u) * r % p = a ∧ ∀ b, b < p → pts p r b * pts p r b + p * p ≤ 4 * p + 2 * pts p r b * p := by
  unfold okP at h
  rw [force_eq, Bool.and_eq_true, Bool.and_eq_true] at h
  obtain ⟨h1, h2, h3⟩ := h
  refine ⟨fun b hb => okA_sound hp hp2 h2 hb, fun a ha => ?_⟩
  have h4 : covL p l = 2 ^ p - 1 := Nat.eq_of_beq_eq_true h1
  have h5 : (covL p l).testBit a = true := by
    rw [h4, Nat.testBit_two_pow_sub_one]
    simpa using ha
  obtain ⟨r, hr, u, hu, e⟩ := covL_bit l h5
  exact ⟨r, u, e, fun b hb => okA_sound hp hp2 (List.all_eq_true.1 h3 r hr) hb⟩
theorem sumN_list (f : Nat → Nat) : ∀ n, sumN f n = ((List.range n).map f).sum
  | 0 => rfl
  | n + 1 => by
    rw [sumN_succ, sumN_list f n, List.range_succ, List.map_append, List.sum_append]
    simp
    omega
theorem sum_perm {l m : List Nat} (h : l.Perm m) : l.sum = m.sum := by
  induction h with
  | nil => rfl
  | cons a _ ih => rw [List.sum_cons, List.sum_cons, ih]
  | swap a b l => simp only [List.sum_cons]; omega
  | trans _ _ h1 h2 => rw [h1, h2]
theorem modiff (p s t : Nat) : s % p = t % p ↔ (p : Int) ∣ (s : Int) - t := by
  constructor
  · intro h
    exact Int.dvd_of_emod_eq_zero (Int.emod_eq_emod_iff_emod_sub_eq_zero.1 (by exact_mod_cast h))
  · intro h
    have := Int.emod_eq_emod_iff_emod_sub_eq_zero.2 (Int.emod_eq_zero_of_dvd h)
    exact_mod_cast this
/-- numbers times one that the prime does not divide are the same numbers -/
theorem sumN_times {p c : Nat} (hp : M.Pr p) (hc : ¬ p ∣ c) (F : Nat → Nat) : sumN (fun x => F (c * x % p)) p = sumN F p := by
  rw [sumN_list, sumN_list]
  have e : (List.range p).map (fun x => F (c * x % p)) = ((List.range p).map fun x => c * x % p).map F := by rw [List.map_map]; rfl
  rw [e]
  refine sum_perm (List.Perm.map F (M.perm_of_inj _ _ (M.nodup_map _ _ List.nodup_range ?_) ?_ (by simp)))
  · intro x hx y hy h
    have h1 : x < p := List.mem_range.1 hx
    have h2 : y < p := List.mem_range.1 hy
    have h3 := M.cancel_mod (hp.cop hc) h
    rwa [Nat.mod_eq_of_lt h1, Nat.mod_eq_of_lt h2] at h3
  · intro z hz
    obtain ⟨x, _, rfl⟩ := List.mem_map.1 hz
    exact List.mem_range.2 (Nat.mod_lt _ hp.pos)
theorem emd (a : Nat) (N : Nat) : (N : Int) ∣ ((a % N : Nat) : Int) - a := by
  rw [Int.natCast_emod]
  exact ⟨-((a : Int) / N), by have := Int.mul_ediv_add_emod (a : Int) N; grind⟩
/-- the same curve in other numbers -/
theorem pts_scale {p r u b a c : Nat} (hp : M.Pr p) (hu : ¬ p ∣ u) (ha : u * u * (u * u) * r % p = a) (hc : u * u * (u * u) * (u * u) * c % p = b) : pts p a b = pts p r c := by
  unfold pts
  have hu2 : ¬ p ∣ u * u := fun h => (hp.dvd_mul h).elim hu hu
  have hu3 : ¬ p ∣ u * u * u := fun h => (hp.dvd_mul h).elim hu2 hu
  rw [← sumN_times hp hu2 (fun x => sumN (ind p a b x) p)]
  refine sumN_congr p fun x hx => ?_
  rw [← sumN_times hp hu3 (ind p a b (u * u * x % p))]
  refine sumN_congr p fun y hy => ?_
  have hiff : (u * u * u * y % p) * (u * u * u * y % p) % p = ((u * u * x % p) * (u * u * x % p) * (u * u * x % p) + a * (u * u * x % p) + b) % p ↔ y * y % p = (x * x * x + r * x + c) % p := by
    rw [modiff, modiff]
    have d1 := emd (u * u * u * y) p
    have d2 := emd (u * u * x) p
    have d3 := emd (u * u * (u * u) * r) p
    have d4 := emd (u * u * (u * u) * (u * u) * c) p
    rw [ha] at d3
    rw [hc] at d4
    have hui : ¬ (p : Int) ∣ (u : Int) := fun h => hu (by exact_mod_cast h)
    generalize u * u * u * y % p = Y at *
    generalize u * u * x % p = X at *
    push_cast at *
    have key : (p : Int) ∣ ((Y : Int) * Y - (X * X * X + a * X + b)) - (u * u * u * (u * u * u) : Int) * (y * y - (x * x * x + r * x + c)) := by
      obtain ⟨k1, h1⟩ := d1
      obtain ⟨k2, h2⟩ := d2
      obtain ⟨k3, h3⟩ := d3
      obtain ⟨k4, h4⟩ := d4
      have e1 : (Y : Int) = u * u * u * y + p * k1 := by omega
      have e2 : (X : Int) = u * u * x + p * k2 := by omega
      have e3 : (a : Int) = u * u * (u * u) * r + p * k3 := by omega
      have e4 : (b : Int) = u * u * (u * u) * (u * u) * c + p * k4 := by omega
      rw [e1, e2, e3, e4]
      refine ⟨k1 * (2 * (u * u * u * y) + p * k1) - k2 * ((u * u * x + p * k2) * (u * u * x + p * k2) + (u * u * x + p * k2) * (u * u * x) + u * u * x * (u * u * x)) - k3 * (u * u * x + p * k2) - u * u * (u * u) * r * k2 - k4, ?_⟩
      grind
    constructor
    · intro h
      have h1 : (p : Int) ∣ (u * u * u * (u * u * u) : Int) * (y * y - (x * x * x + r * x + c)) := by
        have := Int.dvd_sub h key
        rwa [show ((Y : Int) * Y - (X * X * X + a * X + b)) - (((Y : Int) * Y - (X * X * X + a * X + b)) - (u * u * u * (u * u * u) : Int) * (y * y - (x * x * x + r * x + c))) = (u * u * u * (u * u * u) : Int) * (y * y - (x * x * x + r * x + c)) by grind] at this
      rcases hp.dvd_mul_int h1 with h2 | h2
      · exfalso
        rcases hp.dvd_mul_int h2 with h3 | h3 <;>
          rcases hp.dvd_mul_int h3 with h4 | h4 <;>
            first | exact hui h4 | exact (hp.dvd_mul_int h4).elim hui hui
      · exact h2
    · intro h
      have h1 : (p : Int) ∣ (u * u * u * (u * u * u) : Int) * (y * y - (x * x * x + r * x + c)) := Int.dvd_trans h (Int.dvd_mul_left _ _)
      have := Int.dvd_add key h1
      rwa [show ((Y : Int) * Y - (X * X * X + a * X + b)) - (u * u * u * (u * u * u) : Int) * (y * y - (x * x * x + r * x + c)) + (u * u * u * (u * u * u) : Int) * (y * y - (x * x * x + r * x + c)) = (Y : Int) * Y - (X * X * X + a * X + b) by grind] at this
  show (if _ then 1 else 0) = (if _ then 1 else 0)
  by_cases h : y * y % p = (x * x * x + r * x + c) % p
  · rw [if_pos h, if_pos (hiff.2 h)]
  · rw [if_neg h, if_neg fun h' => h (hiff.1 h')]
theorem prime_listed {p : Nat} (hp : M.Pr p) (h5 : 5 ≤ p) (h : p ≤ 1009) : ∃ l, okP p l = true := by
  have h0 := all_primes p (by omega)
  rw [Bool.or_eq_true, Bool.or_eq_true] at h0
  rcases h0 with (h1 | h1) | h1
  · have := Nat.le_of_ble_eq_true h1
    omega
  · obtain ⟨q, hq, e⟩ := List.any_eq_true.1 h1
    have e' : q.1 = p := Nat.eq_of_beq_eq_true e
    have h2 := List.all_eq_true.1 (show allL.all (fun q => okP q.1 q.2) = true from ok_all) q hq
    rw [e'] at h2
    exact ⟨_, h2⟩
  · exfalso
    obtain ⟨d, hd, e⟩ := List.any_eq_true.1 h1
    rw [Bool.and_eq_true] at e
    have e1 := Nat.eq_of_beq_eq_true e.1
    have hd2 : 2 ≤ d := by
      simp only [List.mem_cons, List.not_mem_nil, or_false] at hd
      omega
    rcases hp.2 d (Nat.dvd_of_mod_eq_zero e1) with c | c
    · omega
    · have h3 := e.2
      rw [c, Nat.beq_refl] at h3
      cases h3
/-- the bound -/
theorem pts_bound {p a b : Nat} (hp : M.Pr p) (h5 : 5 ≤ p) (h : p ≤ 1009) (ha : a < p) (hb : b < p) : pts p a b * pts p a b + p * p ≤ 4 * p + 2 * pts p a b * p := by
  obtain ⟨l, hl⟩ := prime_listed hp h5 h
  obtain ⟨h0, h1⟩ := okP_sound (by omega) h hl
  by_cases a0 : a = 0
  · subst a0; exact h0 b hb
  obtain ⟨r, u, e, h2⟩ := h1 a ha
  have hu : ¬ p ∣ u := fun hd => a0 (by
    rw [← e]
    exact Nat.mod_eq_zero_of_dvd (Nat.dvd_trans hd ⟨u * (u * u) * r, by grind⟩))
  have hc : ∃ c, c < p ∧ u * u * (u * u) * (u * u) * c % p = b := by
    have hu6 : ¬ p ∣ u * u * (u * u) * (u * u) := fun hd => by
      rcases hp.dvd_mul hd with h | h
      · rcases hp.dvd_mul h with h | h <;> exact (hp.dvd_mul h).elim hu hu
      · exact (hp.dvd_mul h).elim hu hu
    have hperm : ((List.range p).map fun x => u * u * (u * u) * (u * u) * x % p).Perm (List.range p) := by
      refine M.perm_of_inj _ _ (M.nodup_map _ _ List.nodup_range ?_) ?_ (by simp)
      · intro x hx y hy h
        have h1 : x < p := List.mem_range.1 hx
        have h2 : y < p := List.mem_range.1 hy
        have h3 := M.cancel_mod (hp.cop hu6) h
        rwa [Nat.mod_eq_of_lt h1, Nat.mod_eq_of_lt h2] at h3
      · intro z hz
        obtain ⟨x, _, rfl⟩ := List.mem_map.1 hz
        exact List.mem_range.2 (Nat.mod_lt _ hp.pos)
    obtain ⟨c, hc, e⟩ := List.mem_map.1 (hperm.mem_iff.2 (List.mem_range.2 hb))
    exact ⟨c, List.mem_range.1 hc, e⟩
  obtain ⟨c, c1, c2⟩ := hc
  rw [pts_scale hp hu e c2]
  exact h2 c c1
end Hs
theorem filter_len (q : Nat → Bool) : ∀ n, ((List.range n).filter q).length = Hs.sumN (fun y => if q y = true then 1 else 0) n
  | 0 => rfl
  | n + 1 => by
    rw [List.range_succ, List.filter_append, List.length_append, filter_len q n, Hs.sumN_succ]
    by_cases h : q n = true
    · rw [List.filter_cons_of_pos h, if_pos h]; simp; omega
    · rw [List.filter_cons_of_neg h, if_neg h]; simp
/-- Hasse's bound -/
theorem hasse {N a b : Nat} (hp : M.Pr N) (h5 : 5 ≤ N) (h : N ≤ 1009) (ha : a < N) (hb : b < N) : (cntS N a b N - N - 1) * (cntS N a b N - N - 1) ≤ 4 * N := by
  have ho : N % 2 = 1 := by
    rcases Nat.mod_two_eq_zero_or_one N with e | e
    · rcases hp.2 2 (Nat.dvd_of_mod_eq_zero e) with h | h <;> omega
    · exact e
  have hl : (spotsL N a b).length = 1 + Hs.pts N a b := by
    unfold spotsL Hs.pts
    rw [List.length_cons, List.length_flatMap, Hs.sumN_list, Nat.add_comm]
    congr 3
    funext x
    rw [List.length_map]
    unfold rootsN
    rw [filter_len]
    refine Hs.sumN_congr N fun y _ => ?_
    show (if _ then 1 else 0) = (if _ then 1 else 0)
    have hiff : decide (((y : Int) * y - ((x : Int) * x * x + a * x + b)) % N = 0) = true ↔ y * y % N = (x * x * x + a * x + b) % N := by
      rw [decide_eq_true_eq, Hs.modiff]
      push_cast
      exact ⟨fun h => Int.dvd_of_emod_eq_zero h, fun h => Int.emod_eq_zero_of_dvd h⟩
    by_cases h : y * y % N = (x * x * x + a * x + b) % N
    · rw [if_pos h, if_pos (hiff.2 h)]
    · rw [if_neg h, if_neg fun h' => h (hiff.1 h')]
  rw [cntS_len hp ho, hl]
  have hb := Hs.pts_bound hp h5 h ha hb
  generalize Hs.pts N a b = n at *
  have hb' : (n : Int) * n + N * N ≤ 4 * N + 2 * n * N := by exact_mod_cast hb
  push_cast
  have e : (1 + (n : Int) - N - 1) * (1 + n - N - 1) = n * n + N * N - 2 * n * N := by grind
  rw [e]
  omega
end Go.Proofs.Ytnheboamjfahaaa

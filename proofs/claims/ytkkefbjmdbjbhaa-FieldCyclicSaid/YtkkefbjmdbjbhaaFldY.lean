/- Plain: a field's element whose powers are all but 0 (Gauss). -/
import Derived.Test.YtkkefbjmdbjbhaaFldG
import Derived.Test.YtkkefbjmdbjbhaaPrimM
namespace Go.Proofs.Ytkkefbjmdbjbhaa
set_option linter.unusedVariables false
set_option linter.unusedSimpArgs false
/-- the order of an element -/
def OrdF (p : Nat) (f : List Int) (a k : Nat) : Prop := 0 < k ∧ powF p f a k = 1 ∧ ∀ j, powF p f a j = 1 → k ∣ j
section
variable {p m : Nat} {f : List Int}
theorem Fld.one_mulk (h : Fld p f m) {a k : Nat} (e : powF p f a k = 1) (j : Nat) : powF p f a (k * j) = 1 := by rw [← h.pow_pow, e, h.one_pow]
theorem Fld.one_addk (h : Fld p f m) {a k : Nat} (e : powF p f a k = 1) (j : Nat) : powF p f a (k + j) = powF p f a j := by rw [h.pow_add, e, h.one_mul (h.pow_lt _ _)]
theorem Fld.one_modk (h : Fld p f m) {a k j : Nat} (e : powF p f a k = 1) (ej : powF p f a j = 1) : powF p f a (j % k) = 1 := by
  rw [← Nat.div_add_mod j k, h.one_addk (h.one_mulk e _)] at ej
  exact ej
theorem Fld.one_gcd (h : Fld p f m) {a : Nat} : ∀ (k j : Nat), powF p f a k = 1 → powF p f a j = 1 → powF p f a (Nat.gcd k j) = 1 := by
  intro k
  induction k using Nat.strongRecOn with
  | ind k ih =>
    intro j hk hj
    by_cases h0 : k = 0
    · subst h0; rw [Nat.gcd_zero_left]; exact hj
    · rw [Nat.gcd_rec]
      exact ih (j % k) (Nat.mod_lt _ (by omega)) k (h.one_modk hk hj) hk
theorem Fld.ord_of (h : Fld p f m) {a k : Nat} (h0 : 0 < k) (h1 : powF p f a k = 1) (h2 : ∀ q, M.Pr q → q ∣ k → powF p f a (k / q) ≠ 1) : OrdF p f a k := by
  refine ⟨h0, h1, fun j hj => ?_⟩
  have hg := h.one_gcd k j h1 hj
  obtain ⟨c, hc⟩ := Nat.gcd_dvd_left k j
  by_cases hc1 : c = 1
  · rw [hc1, Nat.mul_one] at hc
    rw [hc]; exact Nat.gcd_dvd_right k j
  · have hc0 : c ≠ 0 := by rintro rfl; omega
    obtain ⟨q, hq, d, rfl⟩ := M.exists_prime c (by omega)
    have e1 : k = q * (Nat.gcd k j * d) := hc.trans (by ac_rfl)
    refine absurd ?_ (h2 q hq ⟨_, e1⟩)
    rw [Nat.div_eq_of_eq_mul_right hq.pos e1]
    exact h.one_mulk hg d
theorem Fld.ord_ex (h : Fld p f m) {a : Nat} (hx : ∃ k, 0 < k ∧ powF p f a k = 1) : ∃ k, OrdF p f a k := by
  obtain ⟨k, ⟨h1, h2⟩, h3⟩ := M.exists_min hx
  refine ⟨k, h1, h2, fun j hj => ?_⟩
  have hg := h.one_gcd k j h2 hj
  have g1 : 0 < Nat.gcd k j := Nat.gcd_pos_of_pos_left _ h1
  have g2 : Nat.gcd k j ≤ k := Nat.le_of_dvd h1 (Nat.gcd_dvd_left k j)
  rcases Nat.lt_or_ge (Nat.gcd k j) k with h4 | h4
  · exact absurd ⟨g1, hg⟩ (h3 _ h4)
  · have e : Nat.gcd k j = k := by omega
    rw [← e]; exact Nat.gcd_dvd_right k j
theorem Fld.ord_mul (h : Fld p f m) {x y k j : Nat} (hx : OrdF p f x k) (hy : OrdF p f y j) (hc : Nat.Coprime k j) : OrdF p f (mulF p f x y) (k * j) := by
  have both : ∀ {u v n : Nat}, powF p f u n = 1 → powF p f v n = 1 → powF p f (mulF p f u v) n = 1 := fun {u v n} h1 h2 => by
    rw [h.mul_pow, h1, h2, h.one_mul h.one_lt]
  have part : ∀ {u v n : Nat}, powF p f (mulF p f u v) n = 1 → powF p f v n = 1 → powF p f u n = 1 := fun {u v n} h1 h2 => by
    rw [h.mul_pow, h2, h.mul_one (h.pow_lt _ _)] at h1
    exact h1
  refine ⟨Nat.mul_pos hx.1 hy.1, both (h.one_mulk hx.2.1 j) (by rw [Nat.mul_comm]; exact h.one_mulk hy.2.1 k), fun n hn => ?_⟩
  refine hc.mul_dvd_of_dvd_of_dvd ?_ ?_
  · have h1 : powF p f x (n * j) = 1 := part (h.one_mulk hn j) (by rw [Nat.mul_comm]; exact h.one_mulk hy.2.1 n)
    exact hc.dvd_of_dvd_mul_right (hx.2.2 _ h1)
  · have h1 : powF p f y (n * k) = 1 := part (v := x) (by rw [h.mul_comm]; exact h.one_mulk hn k) (by rw [Nat.mul_comm]; exact h.one_mulk hx.2.1 n)
    exact hc.symm.dvd_of_dvd_mul_right (hy.2.2 _ h1)
theorem Fld.ord_pow (h : Fld p f m) {x d e : Nat} (hx : OrdF p f x (d * e)) : OrdF p f (powF p f x d) e := by
  have h0 := hx.1
  have d0 : 0 < d := Nat.pos_of_mul_pos_right h0
  have e0 : 0 < e := Nat.pos_of_mul_pos_left h0
  have iff : ∀ n, powF p f (powF p f x d) n = 1 ↔ powF p f x (d * n) = 1 := fun n => by rw [h.pow_pow]
  exact ⟨e0, (iff e).2 hx.2.1, fun n hn => Nat.dvd_of_mul_dvd_mul_left d0 (hx.2.2 _ ((iff n).1 hn))⟩
theorem Fld.greater (h : Fld p f m) {x y o r : Nat} (hx : OrdF p f x o) (hy : OrdF p f y r) (hd0 : ¬ r ∣ o) : ∃ i j k : Nat, o < k ∧ OrdF p f (mulF p f (powF p f x i) (powF p f y j)) k := by
  obtain ⟨c, hc⟩ := Nat.gcd_dvd_left r o
  obtain ⟨d, hd⟩ := Nat.gcd_dvd_right r o
  have r0 := hy.1
  have c2 : 2 ≤ c := by
    rcases Nat.lt_or_ge c 2 with h1 | h1
    · exfalso
      have : c = 0 ∨ c = 1 := by omega
      rcases this with rfl | rfl
      · rw [Nat.mul_zero] at hc; omega
      · rw [Nat.mul_one] at hc
        exact hd0 (by rw [hc]; exact Nat.gcd_dvd_right r o)
    · exact h1
  obtain ⟨q, hq, hqc⟩ := M.exists_prime c c2
  have q2 := hq.1
  obtain ⟨a, u, h1, h2⟩ := M.split_prime q2 o hx.1
  obtain ⟨b, v, h3, h4⟩ := M.split_prime q2 r r0
  have hab : a < b := by
    rcases Nat.lt_or_ge a b with h5 | h5
    · exact h5
    · exfalso
      have d1 : q ^ b ∣ o := by rw [h1]; exact Nat.dvd_trans (Nat.pow_dvd_pow q h5) (Nat.dvd_mul_right _ _)
      have d2 : q ^ b ∣ r := by rw [h3]; exact Nat.dvd_mul_right _ _
      obtain ⟨w, hw⟩ := Nat.dvd_gcd d2 d1
      have e : q ^ b * v = q ^ b * (w * c) := by rw [← h3, ← Nat.mul_assoc, ← hw]; exact hc
      have e2 := Nat.eq_of_mul_eq_mul_left (Nat.pow_pos (by omega)) e
      exact h4 (by rw [e2]; exact Nat.dvd_trans hqc (Nat.dvd_mul_left _ _))
  have u0 : 0 < u := by
    rcases Nat.eq_zero_or_pos u with e | e
    · subst e; exact absurd (Nat.dvd_zero q) h2
    · exact e
  have o1 : OrdF p f (powF p f x (q ^ a)) u := h.ord_pow (by rw [← h1]; exact hx)
  have o2 : OrdF p f (powF p f y v) (q ^ b) := h.ord_pow (by rw [Nat.mul_comm, ← h3]; exact hy)
  refine ⟨q ^ a, v, u * q ^ b, ?_, h.ord_mul o1 o2 ((M.Pr.copr hq h2).symm.pow_right b)⟩
  have e1 : q ^ a * 2 ≤ q ^ b := by
    have e3 := Nat.pow_le_pow_right (show 0 < q by omega) (show a + 1 ≤ b by omega)
    have e4 := Nat.mul_le_mul_left (q ^ a) q2
    rw [Nat.pow_succ] at e3
    omega
  have e2 := Nat.mul_le_mul_left u e1
  have e5 : u * (q ^ a * 2) = o * 2 := by rw [h1, ← Nat.mul_assoc, Nat.mul_comm u]
  have := hx.1
  omega
/- roots -/
noncomputable def evF (p : Nat) (f : List Int) (x : Nat) : List Nat → Nat
  | [] => 0
  | c :: t => addF p c (mulF p f x (evF p f x t))
/-- divided by what is 0 at r -/
noncomputable def quF (p : Nat) (f : List Int) (r : Nat) : List Nat → List Nat
  | [] => []
  | [_] => []
  | _ :: d :: t => evF p f r (d :: t) :: quF p f r (d :: t)
theorem Fld.add_cancel (h : Fld p f m) {a b c : Nat} (hb : b < p ^ m) (hc : c < p ^ m) (e : addF p a b = addF p a c) : b = c := by
  refine h.uniq hb hc ?_
  have h1 := (h.add_cg a b).symm
  rw [e] at h1
  obtain ⟨q, hq, h2⟩ := h1.trans (h.add_cg a c)
  exact ⟨q, hq, fun i => by have := h2 i; rwa [show el p a i + el p b i - (el p a i + el p c i) = el p b i - el p c i by omega] at this⟩
theorem Fld.zero_add (h : Fld p f m) {a : Nat} (ha : a < p ^ m) : addF p 0 a = a := by
  refine h.uniq (h.add_lt h.zero_lt ha) ha ((h.add_cg 0 a).trans ?_)
  rw [el_zero]
  rw [show (fun i => (0 : Int) + el p a i) = el p a from funext fun i => Int.zero_add _]
  exact Cg.refl _ _ _
theorem Fld.add_zero (h : Fld p f m) {a : Nat} (ha : a < p ^ m) : addF p a 0 = a := by rw [h.add_comm, h.zero_add ha]
theorem Fld.add_assoc (h : Fld p f m) {a b c : Nat} (ha : a < p ^ m) (hb : b < p ^ m) (hc : c < p ^ m) : addF p (addF p a b) c = addF p a (addF p b c) := by
  refine h.uniq (h.add_lt (h.add_lt ha hb) hc) (h.add_lt ha (h.add_lt hb hc)) ?_
  refine ((h.add_cg _ _).trans ((h.add_cg a b).add (Cg.refl _ _ _))).trans ?_
  refine Cg.symm (((h.add_cg _ _).trans ((Cg.refl _ _ _).add (h.add_cg b c))).trans ?_)
  rw [show (fun i => el p a i + (el p b i + el p c i)) = fun i => el p a i + el p b i + el p c i from funext fun i => by omega]
  exact Cg.refl _ _ _
theorem Fld.dist' (h : Fld p f m) {a b c : Nat} (ha : a < p ^ m) (hb : b < p ^ m) : mulF p f c (addF p a b) = addF p (mulF p f c a) (mulF p f c b) := by
  rw [h.mul_comm c, h.dist ha hb, h.mul_comm a, h.mul_comm b]
theorem Fld.ev_lt (h : Fld p f m) (x : Nat) : ∀ {l : List Nat}, (∀ c ∈ l, c < p ^ m) → evF p f x l < p ^ m
  | [], _ => h.zero_lt
  | c :: t, hl => h.add_lt (hl c (by simp)) (h.mul_lt _ _)
theorem Fld.qu_lt (h : Fld p f m) (r : Nat) : ∀ {l : List Nat}, (∀ c ∈ l, c < p ^ m) → ∀ c ∈ quF p f r l, c < p ^ m
  | [], _ => by simp [quF]
  | [_], _ => by simp [quF]
  | _ :: d :: t, hl => by
    have h1 : ∀ c ∈ d :: t, c < p ^ m := fun c hc => hl c (List.mem_cons_of_mem _ hc)
    intro c hc
    simp only [quF, List.mem_cons] at hc
    rcases hc with rfl | hc
    · exact h.ev_lt r h1
    · exact h.qu_lt r h1 c hc
theorem qu_len (r : Nat) : ∀ l : List Nat, (quF p f r l).length = l.length - 1
  | [] => rfl
  | [_] => rfl
  | _ :: d :: t => by simp [quF, qu_len r (d :: t)]
theorem Fld.qu_last (h : Fld p f m) (r : Nat) : ∀ {l : List Nat}, (∀ c ∈ l, c < p ^ m) → 2 ≤ l.length → (quF p f r l).getLastD 0 = l.getLastD 0
  | [], _, h2 => by simp at h2
  | [_], _, h2 => by simp at h2
  | [a, d], hl, _ => by
    have hd : d < p ^ m := hl d (by simp)
    simp [quF, evF]
    rw [h.mul_comm, h.zero_mul, h.add_zero hd]
  | a :: d :: e :: t, hl, _ => by
    have h1 : ∀ c ∈ d :: e :: t, c < p ^ m := fun c hc => hl c (List.mem_cons_of_mem _ hc)
    have ih := h.qu_last r h1 (by simp)
    have e1 : quF p f r (d :: e :: t) ≠ [] := by simp [quF]
    obtain ⟨y, z, hyz⟩ := List.exists_cons_of_ne_nil e1
    rw [show quF p f r (a :: d :: e :: t) = evF p f r (d :: e :: t) :: quF p f r (d :: e :: t) from rfl, hyz]
    rw [hyz] at ih
    rw [show (evF p f r (d :: e :: t) :: y :: z).getLastD 0 = (y :: z).getLastD 0 from rfl, ih]
    rfl
/-- l(x) + r q(x) = x q(x) + l(r) -/
theorem Fld.qu_eq (h : Fld p f m) (x r : Nat) : ∀ {l : List Nat}, (∀ c ∈ l, c < p ^ m) →
    addF p (evF p f x l) (mulF p f r (evF p f x (quF p f r l))) = addF p (mulF p f x (evF p f x (quF p f r l))) (evF p f r l)
  | [], _ => by
    simp only [quF, evF]
    rw [h.mul_comm r, h.zero_mul, h.mul_comm x, h.zero_mul]
  | [c], hl => by
    have hc : c < p ^ m := hl c (by simp)
    simp only [quF, evF]
    rw [h.mul_comm r, h.mul_comm x, h.zero_mul, h.zero_mul, h.add_comm]
  | c :: d :: t, hl => by
    have hc : c < p ^ m := hl c (by simp)
    have h1 : ∀ c ∈ d :: t, c < p ^ m := fun c hc => hl c (List.mem_cons_of_mem _ hc)
    have ih := h.qu_eq x r h1
    rw [show quF p f r (c :: d :: t) = evF p f r (d :: t) :: quF p f r (d :: t) from rfl]
    rw [show evF p f x (c :: d :: t) = addF p c (mulF p f x (evF p f x (d :: t))) from rfl, show evF p f r (c :: d :: t) = addF p c (mulF p f r (evF p f r (d :: t))) from rfl]
    rw [show evF p f x (evF p f r (d :: t) :: quF p f r (d :: t)) = addF p (evF p f r (d :: t)) (mulF p f x (evF p f x (quF p f r (d :: t)))) from rfl]
    have lT := h.ev_lt x h1
    have lR := h.ev_lt r h1
    have lQ := h.ev_lt x (h.qu_lt r h1)
    obtain ⟨T, hT⟩ : ∃ T, evF p f x (d :: t) = T := ⟨_, rfl⟩
    obtain ⟨R, hR⟩ : ∃ T, evF p f r (d :: t) = T := ⟨_, rfl⟩
    obtain ⟨Q, hQ⟩ : ∃ T, evF p f x (quF p f r (d :: t)) = T := ⟨_, rfl⟩
    rw [hT, hR, hQ] at ih
    rw [hT] at lT ⊢
    rw [hR] at lR ⊢
    rw [hQ] at lQ ⊢
    have xq := h.mul_lt x Q
    have rq := h.mul_lt r Q
    rw [h.dist' lR xq, h.dist' lR xq]
    have e1 : mulF p f r (mulF p f x Q) = mulF p f x (mulF p f r Q) := h.left_comm _ _ _
    rw [e1]
    have key : addF p (mulF p f x T) (mulF p f x (mulF p f r Q)) = addF p (mulF p f x (mulF p f x Q)) (mulF p f x R) := by
      rw [← h.dist' lT rq, ih, h.dist' xq lR]
    have a1 := h.mul_lt x T
    have a2 := h.mul_lt r R
    have a3 := h.mul_lt x (mulF p f r Q)
    have a4 := h.mul_lt x (mulF p f x Q)
    have a5 := h.mul_lt x R
    rw [h.add_assoc hc a1 (h.add_lt a2 a3), h.add_comm (mulF p f r R), ← h.add_assoc a1 a3 a2, key]
    rw [h.add_comm (mulF p f x R), h.add_comm c (mulF p f r R), ← h.add_assoc (h.add_lt a4 a5) a2 hc, h.add_comm c]
theorem Fld.q_zero (h : Fld p f m) (hi : Irr p f m) {x r Q : Nat} (hx : x < p ^ m) (hr : r < p ^ m) (hQ : Q < p ^ m) (hne : x ≠ r) (e : mulF p f r Q = mulF p f x Q) : Q = 0 :=
  Classical.byContradiction fun h0 => hne (h.cancel hi hQ h0 hx hr (by rw [h.mul_comm Q x, h.mul_comm Q r, e]))
theorem Fld.roots_le (h : Fld p f m) (hi : Irr p f m) : ∀ (n : Nat) (l : List Nat), l.length = n + 1 → (∀ c ∈ l, c < p ^ m) → l.getLastD 0 ≠ 0 → ∀ rs : List Nat, rs.Nodup → (∀ r ∈ rs, r < p ^ m ∧ evF p f r l = 0) → rs.length ≤ n
  | 0, l, hl, hc, h0, rs, hn, hr => by
    obtain ⟨c, rfl⟩ : ∃ c, l = [c] := List.length_eq_one_iff.1 hl
    cases rs with
    | nil => simp
    | cons r t =>
      exfalso
      have := (hr r (by simp)).2
      simp only [evF] at this
      rw [h.mul_comm, h.zero_mul, h.add_zero (hc c (by simp))] at this
      exact h0 (by simpa using this)
  | n + 1, l, hl, hc, h0, rs, hn, hr => by
    cases rs with
    | nil => simp
    | cons r t =>
      have hrr := hr r (by simp)
      have hn2 := List.nodup_cons.1 hn
      have ih := h.roots_le hi n (quF p f r l) (by rw [qu_len, hl]; rfl) (h.qu_lt r hc) (by rw [h.qu_last r hc (by omega)]; exact h0) t hn2.2 fun x hx => by
        have hxr := hr x (List.mem_cons_of_mem _ hx)
        refine ⟨hxr.1, ?_⟩
        have e := h.qu_eq x r hc
        rw [hxr.2, hrr.2, h.zero_add (h.mul_lt _ _), h.add_zero (h.mul_lt _ _)] at e
        exact h.q_zero hi hxr.1 hrr.1 (h.ev_lt x (h.qu_lt r hc)) (fun e => hn2.1 (e ▸ hx)) e
      rw [List.length_cons]
      omega
theorem Fld.ev_rep (h : Fld p f m) (x : Nat) : ∀ o, evF p f x (List.replicate o 0 ++ [1]) = powF p f x o
  | 0 => by
    simp only [List.replicate_zero, List.nil_append, evF]
    rw [h.mul_comm, h.zero_mul, h.add_zero h.one_lt]; rfl
  | o + 1 => by
    rw [List.replicate_succ, List.cons_append]
    show addF p 0 (mulF p f x (evF p f x (List.replicate o 0 ++ [1]))) = mulF p f (powF p f x o) x
    rw [h.ev_rep x o, h.zero_add (h.mul_lt _ _), h.mul_comm]
theorem Fld.ones_le (h : Fld p f m) (hi : Irr p f m) {o : Nat} (ho : 0 < o) (rs : List Nat) (hn : rs.Nodup) (hr : ∀ r ∈ rs, r < p ^ m ∧ powF p f r o = 1) : rs.length ≤ o := by
  obtain ⟨n, rfl⟩ : ∃ n, o = n + 1 := ⟨o - 1, by omega⟩
  cases rs with
  | nil => simp
  | cons r t =>
    have hrr := hr r (by simp)
    have hn2 := List.nodup_cons.1 hn
    have hc : ∀ c ∈ List.replicate (n + 1) 0 ++ [1], c < p ^ m := fun c hc => by
      have := h.one_lt
      rcases List.mem_append.1 hc with h1 | h1
      · have := List.eq_of_mem_replicate h1; omega
      · have := List.mem_singleton.1 h1; omega
    have hl : (List.replicate (n + 1) 0 ++ [1]).length = n + 2 := by simp
    have ih := h.roots_le hi n (quF p f r (List.replicate (n + 1) 0 ++ [1])) (by rw [qu_len, hl]; rfl) (h.qu_lt r hc) (by rw [h.qu_last r hc (by omega)]; simp) t hn2.2 fun x hx => by
      have hxr := hr x (List.mem_cons_of_mem _ hx)
      refine ⟨hxr.1, ?_⟩
      have e := h.qu_eq x r hc
      have lQ := h.ev_lt x (h.qu_lt r hc)
      rw [h.ev_rep, h.ev_rep, hxr.2, hrr.2, h.add_comm (mulF p f x _) 1] at e
      exact h.q_zero hi hxr.1 hrr.1 lQ (fun e => hn2.1 (e ▸ hx)) (h.add_cancel (h.mul_lt _ _) (h.mul_lt _ _) e)
    rw [List.length_cons]
    omega
/-- an element whose powers are all but 0 -/
theorem Fld.generator (h : Fld p f m) (hi : Irr p f m) : ∃ g, g < p ^ m ∧ g ≠ 0 ∧ OrdF p f g (p ^ m - 1) := by
  have h1 := h.one_lt
  obtain ⟨o, ⟨g, hg, g0, ho⟩, hmax⟩ := M.exists_max (P := fun o => ∃ g, g < p ^ m ∧ g ≠ 0 ∧ OrdF p f g o)
    ⟨1, 1, h1, by omega, by omega, h.one_pow 1, fun j _ => Nat.one_dvd j⟩ (p ^ m - 1)
    (by rintro n ⟨g, hg, g0, ho⟩; exact Nat.le_of_dvd (by omega) (ho.2.2 _ (h.fermat hi hg g0)))
  have hall : ∀ x, x < p ^ m → x ≠ 0 → powF p f x o = 1 := fun x hx x0 => by
    obtain ⟨r, hr⟩ := h.ord_ex ⟨p ^ m - 1, by omega, h.fermat hi hx x0⟩
    by_cases hd : r ∣ o
    · obtain ⟨c, rfl⟩ := hd; exact h.one_mulk hr.2.1 c
    · obtain ⟨i, j, k, h5, h6⟩ := h.greater ho hr hd
      have := hmax k ⟨_, h.mul_lt _ _, h.mul_ne hi (h.pow_lt _ _) (h.pow_lt _ _) (h.pow_ne hi hg g0 i) (h.pow_ne hi hx x0 j), h6⟩
      omega
  have hle := h.ones_le hi ho.1 (List.range' 1 (p ^ m - 1)) List.nodup_range' fun r hr => by
    rw [List.mem_range'_1] at hr
    exact ⟨by omega, hall r (by omega) (by omega)⟩
  rw [List.length_range'] at hle
  have hd := Nat.le_of_dvd (by omega) (ho.2.2 _ (h.fermat hi hg g0))
  obtain rfl : o = p ^ m - 1 := by omega
  exact ⟨g, hg, g0, ho⟩
theorem Fld.pow_inj (h : Fld p f m) (hi : Irr p f m) {g : Nat} (hg : g < p ^ m) (g0 : g ≠ 0) (ho : OrdF p f g (p ^ m - 1)) {i j : Nat} (h1 : 1 ≤ i) (h2 : i < j) (h3 : j ≤ p ^ m - 1) : powF p f g i ≠ powF p f g j := by
  intro e
  rw [show j = i + (j - i) by omega, h.pow_add] at e
  have e2 : powF p f g (j - i) = 1 := by
    refine (h.cancel hi (h.pow_lt g i) (h.pow_ne hi hg g0 i) h.one_lt (h.pow_lt _ _) ?_).symm
    rw [h.mul_one (h.pow_lt g i)]; exact e
  have := Nat.le_of_dvd (by omega) (ho.2.2 _ e2)
  omega
end
end Go.Proofs.Ytkkefbjmdbjbhaa

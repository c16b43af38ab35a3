/- Plain: powers of a field's elements: Fermat, Frobenius. -/
import Derived.Test.YtkkefbjmdbjbhaaFldI
namespace Go.Proofs.Ytkkefbjmdbjbhaa
set_option linter.unusedVariables false
set_option linter.unusedSimpArgs false
/-- a power, one by one -/
noncomputable def powF (p : Nat) (f : List Int) (a : Nat) : Nat → Nat
  | 0 => 1
  | k + 1 => mulF p f (powF p f a k) a
noncomputable def prodF (p : Nat) (f : List Int) (l : List Nat) : Nat := l.foldr (mulF p f) 1
section
variable {p m : Nat} {f : List Int}
theorem el_zero (p : Nat) : el p 0 = fun _ => 0 := funext fun i => co_out (by simp [digL_zero])
theorem Fld.zero_lt (h : Fld p f m) : 0 < p ^ m := Nat.lt_trans Nat.zero_lt_one h.one_lt
theorem Fld.zero_mul (h : Fld p f m) (a : Nat) : mulF p f 0 a = 0 := by
  refine h.uniq (h.mul_lt _ _) h.zero_lt ((h.mul_cg 0 a).trans ?_)
  rw [el_zero, show conv (fun _ => (0 : Int)) (el p a) = fun _ => 0 from funext fun i => conv_zero _ i]
  exact Cg.refl _ _ _
theorem Fld.mul_one (h : Fld p f m) {a : Nat} (ha : a < p ^ m) : mulF p f a 1 = a := by rw [h.mul_comm, h.one_mul ha]
theorem Fld.left_comm (h : Fld p f m) (a b c : Nat) : mulF p f a (mulF p f b c) = mulF p f b (mulF p f a c) := by
  rw [← h.mul_assoc, h.mul_comm a b, h.mul_assoc]
theorem Fld.cancel (h : Fld p f m) (hi : Irr p f m) {a b c : Nat} (ha : a < p ^ m) (h0 : a ≠ 0) (hb : b < p ^ m) (hc : c < p ^ m) (e : mulF p f a b = mulF p f a c) : b = c := by
  obtain ⟨d, hd, e2⟩ := h.inverse hi ha h0
  rw [← h.one_mul hb, ← h.one_mul hc, ← e2, h.mul_comm a d, h.mul_assoc, h.mul_assoc, e]
theorem Fld.mul_ne (h : Fld p f m) (hi : Irr p f m) {a b : Nat} (ha : a < p ^ m) (hb : b < p ^ m) (a0 : a ≠ 0) (b0 : b ≠ 0) : mulF p f a b ≠ 0 := by
  intro e
  obtain ⟨d, hd, e2⟩ := h.inverse hi ha a0
  apply b0
  rw [← h.one_mul hb, ← e2, h.mul_comm a d, h.mul_assoc, e, h.mul_comm, h.zero_mul]
theorem Fld.pow_lt (h : Fld p f m) (a : Nat) : ∀ k, powF p f a k < p ^ m
  | 0 => h.one_lt
  | k + 1 => h.mul_lt _ _
theorem Fld.pow_ne (h : Fld p f m) (hi : Irr p f m) {a : Nat} (ha : a < p ^ m) (a0 : a ≠ 0) : ∀ k, powF p f a k ≠ 0
  | 0 => by show 1 ≠ 0; omega
  | k + 1 => h.mul_ne hi (h.pow_lt a k) ha (h.pow_ne hi ha a0 k) a0
theorem Fld.pow_add (h : Fld p f m) (a : Nat) (j : Nat) : ∀ k, powF p f a (j + k) = mulF p f (powF p f a j) (powF p f a k)
  | 0 => by show powF p f a j = mulF p f _ 1; rw [h.mul_one (h.pow_lt a j)]
  | k + 1 => by show mulF p f (powF p f a (j + k)) a = mulF p f _ (mulF p f (powF p f a k) a); rw [h.pow_add a j k, h.mul_assoc]
theorem Fld.one_pow (h : Fld p f m) : ∀ k, powF p f 1 k = 1
  | 0 => rfl
  | k + 1 => by show mulF p f (powF p f 1 k) 1 = 1; rw [h.one_pow k, h.one_mul h.one_lt]
theorem Fld.mul_pow (h : Fld p f m) (a b : Nat) : ∀ k, powF p f (mulF p f a b) k = mulF p f (powF p f a k) (powF p f b k)
  | 0 => by show 1 = mulF p f 1 1; rw [h.one_mul h.one_lt]
  | k + 1 => by
    show mulF p f (powF p f (mulF p f a b) k) (mulF p f a b) = mulF p f (mulF p f (powF p f a k) a) (mulF p f (powF p f b k) b)
    rw [h.mul_pow a b k, h.mul_assoc, h.mul_assoc, h.left_comm (powF p f b k) a b]
theorem Fld.pow_pow (h : Fld p f m) (a j : Nat) : ∀ k, powF p f (powF p f a j) k = powF p f a (j * k)
  | 0 => rfl
  | k + 1 => by
    show mulF p f (powF p f (powF p f a j) k) (powF p f a j) = powF p f a (j * (k + 1))
    rw [h.pow_pow a j k, Nat.mul_add, Nat.mul_one, h.pow_add]
theorem Fld.prod_lt (h : Fld p f m) : ∀ l, prodF p f l < p ^ m
  | [] => h.one_lt
  | x :: l => h.mul_lt _ _
theorem Fld.prod_ne (h : Fld p f m) (hi : Irr p f m) : ∀ l : List Nat, (∀ x ∈ l, x < p ^ m ∧ x ≠ 0) → prodF p f l ≠ 0
  | [], _ => by show 1 ≠ 0; omega
  | x :: l, hl => h.mul_ne hi (hl x (by simp)).1 (h.prod_lt l) (hl x (by simp)).2 (h.prod_ne hi l fun y hy => hl y (by simp [hy]))
theorem Fld.prod_perm (h : Fld p f m) {l k : List Nat} (hp : l.Perm k) : prodF p f l = prodF p f k := by
  induction hp with
  | nil => rfl
  | cons x _ ih => show mulF p f x (prodF p f _) = mulF p f x (prodF p f _); rw [ih]
  | swap x y l => exact h.left_comm y x _
  | trans _ _ i1 i2 => rw [i1, i2]
theorem Fld.prod_map (h : Fld p f m) (a : Nat) : ∀ l : List Nat, prodF p f (l.map (mulF p f a)) = mulF p f (powF p f a l.length) (prodF p f l)
  | [] => by show 1 = mulF p f 1 1; rw [h.one_mul h.one_lt]
  | x :: l => by
    show mulF p f (mulF p f a x) (prodF p f (l.map (mulF p f a))) = mulF p f (mulF p f (powF p f a l.length) a) (mulF p f x (prodF p f l))
    rw [h.prod_map a l, h.mul_assoc, h.mul_assoc, h.left_comm x, h.left_comm a]
/-- FERMAT, GALOIS -/
theorem Fld.fermat (h : Fld p f m) (hi : Irr p f m) {a : Nat} (ha : a < p ^ m) (a0 : a ≠ 0) : powF p f a (p ^ m - 1) = 1 := by
  have hmem : ∀ x ∈ List.range' 1 (p ^ m - 1), x < p ^ m ∧ x ≠ 0 := fun x hx => by
    rw [List.mem_range'_1] at hx; have := h.one_lt; omega
  have hperm : ((List.range' 1 (p ^ m - 1)).map (mulF p f a)).Perm (List.range' 1 (p ^ m - 1)) :=
    M.perm_of_inj _ _ (M.nodup_map _ _ List.nodup_range' fun x hx y hy e => h.cancel hi ha a0 (hmem x hx).1 (hmem y hy).1 e) (fun x hx => by
      obtain ⟨y, hy, rfl⟩ := List.mem_map.1 hx
      have h1 := h.mul_lt a y
      have h2 := h.mul_ne hi ha (hmem y hy).1 a0 (hmem y hy).2
      rw [List.mem_range'_1]; omega) (by simp)
  have e := h.prod_perm hperm
  rw [h.prod_map a, List.length_range'] at e
  have hP := h.prod_lt (List.range' 1 (p ^ m - 1))
  have hP0 := h.prod_ne hi _ hmem
  refine h.cancel hi hP hP0 (h.pow_lt _ _) h.one_lt ?_
  rw [h.mul_comm, e, h.mul_one hP]
theorem Fld.fermat' (h : Fld p f m) (hi : Irr p f m) {a : Nat} (ha : a < p ^ m) : powF p f a (p ^ m) = a := by
  have h1 := h.one_lt
  obtain ⟨k, hk⟩ : ∃ k, p ^ m = k + 1 := ⟨p ^ m - 1, by omega⟩
  by_cases a0 : a = 0
  · subst a0
    rw [hk]
    show mulF p f (powF p f 0 k) 0 = 0
    rw [h.mul_comm, h.zero_mul]
  · have := h.fermat hi ha a0
    rw [hk] at this ⊢
    show mulF p f (powF p f a k) a = a
    rw [Nat.add_sub_cancel] at this
    rw [this, h.one_mul ha]
theorem Fld.inv_pow (h : Fld p f m) (hi : Irr p f m) {a : Nat} (ha : a < p ^ m) (a0 : a ≠ 0) : mulF p f a (powF p f a (p ^ m - 2)) = 1 := by
  have h1 := h.one_lt
  have := h.fermat hi ha a0
  rw [show p ^ m - 1 = p ^ m - 2 + 1 by omega] at this
  rw [h.mul_comm]; exact this
theorem Fld.inv_inv (h : Fld p f m) (hi : Irr p f m) {a : Nat} (ha : a < p ^ m) (a0 : a ≠ 0) : powF p f (powF p f a (p ^ m - 2)) (p ^ m - 2) = a := by
  have hb := h.pow_lt a (p ^ m - 2)
  have hb0 := h.pow_ne hi ha a0 (p ^ m - 2)
  refine h.cancel hi hb hb0 (h.pow_lt _ _) ha ?_
  rw [h.inv_pow hi hb hb0, h.mul_comm, h.inv_pow hi ha a0]
end
/-- how many of so many -/
def ch : Nat → Nat → Nat
  | _, 0 => 1
  | 0, _ + 1 => 0
  | n + 1, k + 1 => ch n k + ch n (k + 1)
theorem ch_zero (n : Nat) : ch n 0 = 1 := by cases n <;> rfl
theorem ch_out : ∀ {n k : Nat}, n < k → ch n k = 0
  | 0, k + 1, _ => rfl
  | n + 1, k + 1, h => by show ch n k + ch n (k + 1) = 0; rw [ch_out (by omega), ch_out (by omega)]
theorem ch_self : ∀ n, ch n n = 1
  | 0 => rfl
  | n + 1 => by show ch n n + ch n (n + 1) = 1; rw [ch_self n, ch_out (by omega)]
theorem ch_mul : ∀ n k, (k + 1) * ch (n + 1) (k + 1) = (n + 1) * ch n k
  | 0, 0 => rfl
  | 0, k + 1 => by show (k + 1 + 1) * (ch 0 (k + 1) + ch 0 (k + 1 + 1)) = 1 * ch 0 (k + 1); rw [ch_out (by omega), ch_out (by omega)]; rfl
  | n + 1, 0 => by
    have := ch_mul n 0
    show (0 + 1) * (ch (n + 1) 0 + ch (n + 1) (0 + 1)) = (n + 1 + 1) * ch (n + 1) 0
    rw [ch_zero] at this ⊢
    omega
  | n + 1, k + 1 => by
    have h1 := ch_mul n k
    have h2 := ch_mul n (k + 1)
    show (k + 1 + 1) * (ch (n + 1) (k + 1) + ch (n + 1) (k + 1 + 1)) = (n + 1 + 1) * ch (n + 1) (k + 1)
    have h3 : ch (n + 1) (k + 1) = ch n k + ch n (k + 1) := rfl
    rw [Nat.mul_add, h2, Nat.add_mul (k + 1) 1, h1, Nat.one_mul, h3, Nat.add_mul (n + 1) 1, Nat.one_mul, Nat.mul_add]
    omega
theorem ch_dvd {p : Nat} (hp : M.Pr p) {k : Nat} (h0 : 0 < k) (h1 : k < p) : p ∣ ch p k := by
  obtain ⟨n, rfl⟩ : ∃ n, p = n + 1 := ⟨p - 1, by omega⟩
  obtain ⟨j, rfl⟩ : ∃ n, k = n + 1 := ⟨k - 1, by omega⟩
  have h := ch_mul n j
  have : n + 1 ∣ (j + 1) * ch (n + 1) (j + 1) := ⟨ch n j, h⟩
  rcases hp.dvd_mul this with h | h
  · exact absurd (Nat.le_of_dvd (by omega) h) (by omega)
  · exact h
/-- a polynomial's power -/
def pwC (A : Nat → Int) : Nat → Nat → Int
  | 0 => co [1]
  | n + 1 => conv (pwC A n) A
theorem FS.pw {A : Nat → Int} (h : FS A) : ∀ n, FS (pwC A n)
  | 0 => FS.co _
  | n + 1 => (FS.pw h n).mul h
theorem conv_sum {g : Nat → Nat → Int} (A : Nat → Int) (i : Nat) : ∀ n, conv (fun j => SumI n (fun k => g k j)) A i = SumI n (fun k => conv (g k) A i)
  | 0 => conv_zero A i
  | n + 1 => by
    show conv (fun j => SumI n (fun k => g k j) + g n j) A i = SumI n (fun k => conv (g k) A i) + conv (g n) A i
    rw [conv_add (fun j => SumI n (fun k => g k j)) (g n), conv_sum A i n]
theorem binom (A B : Nat → Int) : ∀ n i, pwC (fun j => A j + B j) n i = SumI (n + 1) (fun k => (ch n k : Int) * conv (pwC A k) (pwC B (n - k)) i)
  | 0, i => by
    show co [1] i = 0 + ((1 : Nat) : Int) * conv (co [1]) (co [1]) i
    rw [conv_one]; simp
  | n + 1, i => by
    have e1 : pwC (fun j => A j + B j) (n + 1) i = conv (fun j => SumI (n + 1) (fun k => (ch n k : Int) * conv (pwC A k) (pwC B (n - k)) j)) (fun j => A j + B j) i := by
      show conv (pwC (fun j => A j + B j) n) _ i = _
      rw [show pwC (fun j => A j + B j) n = fun j => SumI (n + 1) (fun k => (ch n k : Int) * conv (pwC A k) (pwC B (n - k)) j) from funext fun j => binom A B n j]
    rw [e1, conv_comm, conv_add A B, conv_comm A, conv_comm B, conv_sum, conv_sum]
    have ta : ∀ k, conv (fun j => (ch n k : Int) * conv (pwC A k) (pwC B (n - k)) j) A i = (ch n k : Int) * conv (pwC A (k + 1)) (pwC B (n - k)) i := fun k => by
      rw [conv_mul]
      congr 1
      exact conv_swap (pwC A k) (pwC B (n - k)) A i
    have tb : ∀ k, k < n + 1 → conv (fun j => (ch n k : Int) * conv (pwC A k) (pwC B (n - k)) j) B i = (ch n k : Int) * conv (pwC A k) (pwC B (n + 1 - k)) i := fun k hk => by
      rw [conv_mul]
      congr 1
      rw [conv_assoc, show n + 1 - k = n - k + 1 by omega]
      rfl
    rw [SumI_congr (fun k _ => ta k), SumI_congr (fun k hk => tb k hk), SumI_head (n + 1)]
    have hz : (ch (n + 1) 0 : Int) * conv (pwC A 0) (pwC B (n + 1 - 0)) i = (ch n 0 : Int) * conv (pwC A 0) (pwC B (n + 1 - 0)) i := by rw [ch_zero, ch_zero]
    rw [hz]
    have hs : SumI (n + 1) (fun k => (ch (n + 1) (k + 1) : Int) * conv (pwC A (k + 1)) (pwC B (n + 1 - (k + 1))) i)
        = SumI (n + 1) (fun k => (ch n k : Int) * conv (pwC A (k + 1)) (pwC B (n - k)) i) + SumI (n + 1) (fun k => (ch n (k + 1) : Int) * conv (pwC A (k + 1)) (pwC B (n - k)) i) := by
      rw [← SumI_add]
      refine SumI_congr fun k _ => ?_
      rw [show n + 1 - (k + 1) = n - k by omega]
      show ((ch n k + ch n (k + 1) : Nat) : Int) * _ = _
      rw [Int.natCast_add, Int.add_mul]
    rw [hs, SumI_head n (fun k => (ch n k : Int) * conv (pwC A k) (pwC B (n + 1 - k)) i)]
    have hl : SumI (n + 1) (fun k => (ch n (k + 1) : Int) * conv (pwC A (k + 1)) (pwC B (n - k)) i) = SumI n (fun k => (ch n (k + 1) : Int) * conv (pwC A (k + 1)) (pwC B (n + 1 - (k + 1))) i) := by
      show SumI n _ + (ch n (n + 1) : Int) * _ = _
      rw [ch_out (by omega)]
      simp
    rw [hl]
    omega
theorem frob {p : Nat} (hp : M.Pr p) (A B : Nat → Int) (i : Nat) : (p : Int) ∣ pwC (fun j => A j + B j) p i - (pwC A p i + pwC B p i) := by
  have h2 := hp.1
  rw [binom]
  obtain ⟨n, rfl⟩ : ∃ n, p = n + 1 := ⟨p - 1, by omega⟩
  show ((n + 1 : Nat) : Int) ∣ SumI (n + 1) (fun k => (ch (n + 1) k : Int) * conv (pwC A k) (pwC B (n + 1 - k)) i) + (ch (n + 1) (n + 1) : Int) * conv (pwC A (n + 1)) (pwC B (n + 1 - (n + 1))) i - _
  rw [SumI_head, ch_zero, ch_self, Nat.sub_self, Nat.sub_zero]
  have e1 : conv (pwC A 0) (pwC B (n + 1)) i = pwC B (n + 1) i := conv_one _ _
  have e2 : conv (pwC A (n + 1)) (pwC B 0) i = pwC A (n + 1) i := by rw [conv_comm]; exact conv_one _ _
  rw [e1, e2]
  have h3 : ((n + 1 : Nat) : Int) ∣ SumI n (fun k => (ch (n + 1) (k + 1) : Int) * conv (pwC A (k + 1)) (pwC B (n + 1 - (k + 1))) i) := SumI_dvd fun k hk =>
    Int.dvd_trans (Int.natCast_dvd_natCast.2 (ch_dvd hp (by omega) (by omega))) (Int.dvd_mul_right _ _)
  obtain ⟨q, hq⟩ := h3
  rw [hq]
  exact ⟨q, by omega⟩
theorem Cg.pw {p : Int} {F A B : Nat → Int} (h : Cg p F A B) (hA : FS A) (hB : FS B) : ∀ n, Cg p F (pwC A n) (pwC B n)
  | 0 => Cg.refl _ _ _
  | n + 1 => (Cg.pw h hA hB n).mul h hA (hB.pw n)
theorem Fld.pow_cg {p m : Nat} {f : List Int} (h : Fld p f m) (a : Nat) : ∀ n, Cg p (co f) (el p (powF p f a n)) (pwC (el p a) n)
  | 0 => by show Cg _ _ (el p 1) (co [1]); unfold el; rw [dig_one h.p2]; exact Cg.refl _ _ _
  | n + 1 => (h.mul_cg _ _).trans ((h.pow_cg a n).mulr (FS.el p a))
/-- FROBENIUS -/
theorem Fld.frobenius {p m : Nat} {f : List Int} (h : Fld p f m) {a b : Nat} : powF p f (addF p a b) p = addF p (powF p f a p) (powF p f b p) := by
  have hP := prB_true h.pr
  rw [Int.toNat_natCast] at hP
  refine h.uniq (h.pow_lt _ _) (h.add_lt (h.pow_lt _ _) (h.pow_lt _ _)) ?_
  refine (h.pow_cg _ p).trans ?_
  refine ((h.add_cg a b).pw (FS.el _ _) ((FS.el p a).add (FS.el p b)) p).trans ?_
  refine Cg.trans (B := fun i => pwC (el p a) p i + pwC (el p b) p i) ?_ (Cg.symm ((h.add_cg _ _).trans ((h.pow_cg a p).add (h.pow_cg b p))))
  exact ⟨fun _ => 0, FS.zero, fun i => by rw [conv_zero, Int.sub_zero]; exact frob hP _ _ i⟩
end Go.Proofs.Ytkkefbjmdbjbhaa

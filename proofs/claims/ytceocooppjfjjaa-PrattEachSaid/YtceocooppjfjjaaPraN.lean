/- Plain, for PrattEach: the primes of a number; a tree of primes is short; the lines that are made hold. -/
import Derived.Test.YtceocooppjfjjaaPraM
import Derived.Test.YtceocooppjfjjaaPrimM
namespace Go.Proofs.Ytceocooppjfjjaa.M
set_option linter.unusedVariables false
set_option linter.unusedSimpArgs false
theorem FacL.mem {q : Nat} (hq : Pr q) : ∀ {b n : Nat} {l : List (Nat × Nat)}, FacL b n l → q ∣ n → q ∈ l.map (·.1)
  | b, n, [], h, hd => by
    have : n = 1 := h
    subst this
    have := Nat.le_of_dvd (by decide) hd
    have := hq.1
    omega
  | b, n, x :: t, ⟨h1, h2, h3, m, h4, h5, h6⟩, hd => by
    rw [h4] at hd
    rcases hq.dvd_mul hd with h | h
    · have := hq.eq_of_dvd h2 (hq.dvd_pow h)
      rw [this]; exact List.mem_cons_self
    · exact List.mem_cons_of_mem _ (FacL.mem hq h6 h)
/-- the primes of a number -/
def prs (m : Nat) : List Nat := (fac m).map (·.1)
theorem mem_prs {m q : Nat} (h : 0 < m) : q ∈ prs m ↔ Pr q ∧ q ∣ m := by
  constructor
  · intro hq
    obtain ⟨x, hx, rfl⟩ := List.mem_map.1 hq
    obtain ⟨k1, k2, k3, k4⟩ := (fac_spec h).dvd x hx
    refine ⟨k1, Nat.dvd_trans ?_ k4⟩
    obtain ⟨j, hj⟩ : ∃ j, x.2 = j + 1 := ⟨x.2 - 1, by omega⟩
    rw [hj, Nat.pow_succ]; exact ⟨x.1 ^ j, Nat.mul_comm _ _⟩
  · rintro ⟨h1, h2⟩
    exact (fac_spec h).mem h1 h2
theorem tree_len {F : Nat → List Nat} : ∀ {b n : Nat} {l : List (Nat × Nat)}, FacL b n l → (∀ x ∈ l, x.1 ≠ 2 → 2 ^ (F x.1).length ≤ x.1) → 2 ^ (l.flatMap fun x => if x.1 = 2 then [] else F x.1).length * (if 2 ∣ n then 2 else 1) ≤ n
  | b, n, [], h, _ => by
    have : n = 1 := h
    subst this
    simp
  | b, n, x :: t, ⟨h1, h2, h3, m, h4, h5, h6⟩, hF => by
    have ih := tree_len h6 (fun y hy => hF y (List.mem_cons_of_mem _ hy))
    obtain ⟨j, hj⟩ : ∃ j, x.2 = j + 1 := ⟨x.2 - 1, by omega⟩
    have hpow : x.1 ≤ x.1 ^ x.2 := by rw [hj, Nat.pow_succ]; exact Nat.le_mul_of_pos_left _ (Nat.pow_pos h2.pos)
    rw [List.flatMap_cons, List.length_append, Nat.pow_add]
    by_cases e : x.1 = 2
    · rw [if_pos e]
      rw [e] at h5 h4 hpow
      rw [if_neg h5] at ih
      have hle : (if 2 ∣ n then 2 else 1) ≤ 2 := by split <;> omega
      have a1 : 2 ^ (t.flatMap fun x => if x.1 = 2 then [] else F x.1).length * (if 2 ∣ n then 2 else 1) ≤ m * 2 := Nat.mul_le_mul (by omega) hle
      have a2 : m * 2 ≤ m * 2 ^ x.2 := Nat.mul_le_mul_left _ hpow
      have a3 : n = m * 2 ^ x.2 := by rw [h4, Nat.mul_comm]
      simp only [List.length_nil, Nat.pow_zero, Nat.one_mul]
      omega
    · rw [if_neg e]
      have hf := hF x List.mem_cons_self e
      have h2n : 2 ∣ n → 2 ∣ m := fun hd => by
        rw [h4] at hd
        have p2 : Pr 2 := ⟨Nat.le_refl _, fun d hd => by
          have := Nat.le_of_dvd (by decide) hd
          have : d ≠ 0 := by rintro rfl; simp at hd
          omega⟩
        rcases p2.dvd_mul hd with h | h
        · exact absurd (p2.eq_of_dvd h2 (p2.dvd_pow h)).symm e
        · exact h
      have hle : (if 2 ∣ n then 2 else 1) ≤ (if 2 ∣ m then 2 else 1) := by
        by_cases hn : 2 ∣ n
        · rw [if_pos hn, if_pos (h2n hn)]; exact Nat.le_refl _
        · rw [if_neg hn]; split <;> omega
      have a1 : 2 ^ (t.flatMap fun x => if x.1 = 2 then [] else F x.1).length * (if 2 ∣ n then 2 else 1) ≤ m := Nat.le_trans (Nat.mul_le_mul_left _ hle) ih
      have a2 : 2 ^ (F x.1).length ≤ x.1 ^ x.2 := Nat.le_trans hf hpow
      rw [Nat.mul_assoc]
      have a3 := Nat.mul_le_mul a2 a1
      rw [← h4] at a3
      exact a3
/-- all primes that are needed, but 2 -/
structure Tree (p : Nat) (T : List Nat) : Prop where
  pr : ∀ x ∈ T, Pr x ∧ x ≤ p
  top : p = 2 ∨ p ∈ T
  shut : ∀ x ∈ T, ∀ q, Pr q → q ∣ x - 1 → q = 2 ∨ q ∈ T
  short : 2 ^ T.length ≤ p
theorem tree_ex (p : Nat) : Pr p → ∃ T, Tree p T := by
  induction p using Nat.strongRecOn with
  | _ p ih =>
    intro hp
    by_cases e : p = 2
    · subst e
      exact ⟨[], by simp, .inl rfl, by simp, by simp⟩
    · have h3 : 3 ≤ p := by have := hp.1; omega
      have hch : ∀ q, ∃ T, Pr q → q < p → Tree q T := fun q => by
        by_cases h : Pr q ∧ q < p
        · obtain ⟨T, hT⟩ := ih q h.2 h.1
          exact ⟨T, fun _ _ => hT⟩
        · exact ⟨[], fun h1 h2 => absurd ⟨h1, h2⟩ h⟩
      obtain ⟨F, hF⟩ := Classical.axiomOfChoice hch
      have hpos : 0 < p - 1 := by omega
      have hsp := fac_spec hpos
      have hin : ∀ x ∈ fac (p - 1), Pr x.1 ∧ x.1 < p := fun x hx => by
        have h := (mem_prs hpos).1 (List.mem_map.2 ⟨x, hx, rfl⟩ : x.1 ∈ prs (p - 1))
        have := Nat.le_of_dvd hpos h.2
        exact ⟨h.1, by omega⟩
      have hlen := tree_len (F := F) hsp (fun x hx _ => (hF x.1 (hin x hx).1 (hin x hx).2).short)
      have h2 : 2 ∣ p - 1 := by
        refine Nat.dvd_of_mod_eq_zero ?_
        have : ¬ p % 2 = 0 := fun h => by
          rcases hp.2 2 (Nat.dvd_of_mod_eq_zero h) with h | h <;> omega
        omega
      rw [if_pos h2] at hlen
      refine ⟨p :: (fac (p - 1)).flatMap fun x => if x.1 = 2 then [] else F x.1, fun y hy => ?_, .inr List.mem_cons_self, fun y hy q hq hd => ?_, ?_⟩
      · rcases List.mem_cons.1 hy with rfl | hy
        · exact ⟨hp, Nat.le_refl _⟩
        · obtain ⟨x, hx, hyx⟩ := List.mem_flatMap.1 hy
          split at hyx
          · simp at hyx
          · have h7 := (hF x.1 (hin x hx).1 (hin x hx).2).pr y hyx
            have h8 := (hin x hx).2
            exact ⟨h7.1, by have := h7.2; omega⟩
      · rcases List.mem_cons.1 hy with rfl | hy
        · by_cases q2 : q = 2
          · exact .inl q2
          · right
            refine List.mem_cons_of_mem _ ?_
            have hm := (mem_prs hpos).2 ⟨hq, hd⟩
            obtain ⟨x, hx, hxq⟩ := List.mem_map.1 hm
            refine List.mem_flatMap.2 ⟨x, hx, ?_⟩
            rw [if_neg (by rw [hxq]; exact q2)]
            have := (hF x.1 (hin x hx).1 (hin x hx).2).top
            rw [hxq] at this ⊢
            exact this.resolve_left q2
        · obtain ⟨x, hx, hyx⟩ := List.mem_flatMap.1 hy
          by_cases hx2 : x.1 = 2
          · rw [if_pos hx2] at hyx; simp at hyx
          · rw [if_neg hx2] at hyx
            rcases (hF x.1 (hin x hx).1 (hin x hx).2).shut y hyx q hq hd with h | h
            · exact .inl h
            · refine .inr (List.mem_cons_of_mem _ (List.mem_flatMap.2 ⟨x, hx, ?_⟩))
              rw [if_neg hx2]; exact h
      · rw [List.length_cons, Nat.pow_succ]
        omega
theorem nodup_len {α : Type} [DecidableEq α] : ∀ {l m : List α}, l.Nodup → (∀ x ∈ l, x ∈ m) → l.length ≤ m.length
  | [], m, _, _ => Nat.zero_le _
  | x :: t, m, hn, hs => by
    rw [List.nodup_cons] at hn
    have hx := hs x List.mem_cons_self
    have ih := nodup_len (l := t) (m := m.erase x) hn.2 (fun y hy => (List.mem_erase_of_ne (fun e : y = x => hn.1 (e ▸ hy))).2 (hs y (List.mem_cons_of_mem _ hy)))
    rw [List.length_erase_of_mem hx] at ih
    have := List.length_pos_of_mem hx
    rw [List.length_cons]; omega
/-- the part that is left is the part without the prime -/
theorem strip_left {q k m : Nat} (hq : Pr q) (hk : 1 ≤ k) (hm : ¬ q ∣ m) (h0 : 0 < m) : (strip (q ^ k * m) q (q ^ k * m)).2 = m := by
  have hp : 0 < q ^ k * m := Nat.mul_pos (Nat.pow_pos hq.pos) h0
  obtain ⟨e, hd, hs⟩ := strip_spec hq.1 _ _ hp (Nat.le_refl _)
  obtain ⟨a, ha⟩ : ∃ a, (strip (q ^ k * m) q (q ^ k * m)).1 = a := ⟨_, rfl⟩
  obtain ⟨s, hs'⟩ : ∃ s, (strip (q ^ k * m) q (q ^ k * m)).2 = s := ⟨_, rfl⟩
  rw [ha, hs'] at e
  rw [hs'] at hd ⊢
  rcases Nat.lt_trichotomy a k with h | h | h
  · obtain ⟨d, rfl⟩ : ∃ d, k = a + (d + 1) := ⟨k - a - 1, by omega⟩
    rw [Nat.pow_add, Nat.mul_assoc] at e
    have e2 := Nat.eq_of_mul_eq_mul_left (Nat.pow_pos hq.pos) e
    exact absurd ⟨q ^ d * m, by rw [← e2, Nat.pow_succ]; grind⟩ hd
  · subst h
    exact (Nat.eq_of_mul_eq_mul_left (Nat.pow_pos hq.pos) e).symm
  · obtain ⟨d, rfl⟩ : ∃ d, a = k + (d + 1) := ⟨a - k - 1, by omega⟩
    rw [Nat.pow_add, Nat.mul_assoc] at e
    have e2 := Nat.eq_of_mul_eq_mul_left (Nat.pow_pos hq.pos) e
    exact absurd ⟨q ^ d * s, by rw [e2, Nat.pow_succ]; grind⟩ hm
/-- the places of primes among lines -/
def Idx (L : List Ln) (i : Nat) : List Int → List Nat → Prop
  | [], [] => True
  | k :: ks, q :: qs => (∃ kN : Nat, k = (kN : Int) ∧ kN < i ∧ (L.getD kN default).n = (q : Int)) ∧ Idx L i ks qs
  | [], _ :: _ => False
  | _ :: _, [] => False
theorem scan_made {L : List Ln} {i N : Nat} : ∀ {b n : Nat} {l : List (Nat × Nat)} {ks : List Int} {ps : List Int}, FacL b n l → n ∣ N → 0 < n → Idx L i ks (l.map (·.1)) → scan L i ((N : Int) + 1) ks (n : Int) ps = some (1, ps ++ (l.map (·.1)).map fun q : Nat => (q : Int))
  | b, n, [], [], ps, h, _, _, _ => by
    have : n = 1 := h
    subst this
    simp [scan]
  | b, n, [], _ :: _, ps, h, _, _, hi => by cases hi
  | b, n, x :: t, [], ps, h, _, _, hi => by cases hi
  | b, n, x :: t, k :: ks, ps, ⟨h1, h2, h3, m, h4, h5, h6⟩, hN, h0, ⟨⟨kN, hk, hki, hL⟩, hi⟩ => by
    have hm0 : 0 < m := by
      rcases Nat.eq_zero_or_pos m with e | e
      · rw [e, Nat.mul_zero] at h4; omega
      · exact e
    have hmn : m ∣ N := Nat.dvd_trans ⟨x.1 ^ x.2, by rw [h4, Nat.mul_comm]⟩ hN
    have ih := scan_made (ps := ps ++ [(x.1 : Int)]) h6 hmn hm0 hi
    have hxd : x.1 ∣ N := by
      refine Nat.dvd_trans ?_ (Nat.dvd_trans ⟨m, h4⟩ hN)
      obtain ⟨j, hj⟩ : ∃ j, x.2 = j + 1 := ⟨x.2 - 1, by omega⟩
      rw [hj, Nat.pow_succ]; exact ⟨x.1 ^ j, Nat.mul_comm _ _⟩
    have hst : stripI (n : Int) (x.1 : Int) = (m : Int) := by
      unfold stripI
      rw [Int.toNat_natCast, Int.toNat_natCast, h4, strip_left h2 h3 h5 hm0]
    have hkt : k.toNat = kN := by omega
    unfold scan
    rw [if_neg (by omega), hkt]
    simp only [List.map_cons] at hL
    rw [hL, hst, if_neg]
    · rw [ih, List.map_cons, List.map_cons, List.append_assoc]; rfl
    · have : ((N : Int) + 1 - 1) % (x.1 : Int) = 0 := by
        rw [show (N : Int) + 1 - 1 = (N : Int) by omega]
        exact Int.emod_eq_zero_of_dvd (Int.ofNat_dvd.2 hxd)
      omega
/-- a primitive root is what is searched for -/
theorem gen_of_ord {p : Nat} (hp : Pr p) {g : Int} (h : IsOrd g p (p - 1)) : genB g p ((prs (p - 1)).map fun q : Nat => (q : Int)) = true := by
  have h2 := hp.1
  have one : (1 : Int) % (p : Int) = 1 := Int.emod_eq_of_lt (by omega) (by omega)
  have e1 : ((p : Int) - 1).toNat = p - 1 := by omega
  unfold genB
  rw [Bool.and_eq_true]
  constructor
  · rw [e1]
    have := h.2.1
    unfold One at this
    rw [one] at this
    simpa using this
  · rw [Bool.not_eq_true', List.any_eq_false]
    intro y hy
    obtain ⟨q, hq, rfl⟩ := List.mem_map.1 hy
    have hpos : 0 < p - 1 := h.1
    obtain ⟨hqp, hqd⟩ := (mem_prs hpos).1 hq
    have ed : ((p : Int) - 1) / (q : Int) = (((p - 1) / q : Nat) : Int) := by rw [Int.natCast_ediv]; congr 1; omega
    rw [ed, Int.toNat_natCast]
    intro hone
    have hone' : One g p ((p - 1) / q) := by unfold One; rw [one]; simpa using hone
    have hdv := h.2.2 _ hone'
    have hlt : (p - 1) / q < p - 1 := Nat.div_lt_self hpos hqp.1
    have hpos2 : 0 < (p - 1) / q := Nat.div_pos (Nat.le_of_dvd hpos hqd) hqp.pos
    have := Nat.le_of_dvd hpos2 hdv
    omega
theorem gen_ex {p : Nat} (hp : Pr p) : ∃ g : Nat, 1 ≤ g ∧ g < p ∧ genB g p ((prs (p - 1)).map fun q : Nat => (q : Int)) = true := by
  obtain ⟨g, h1, h2, h3⟩ := prim_root hp
  obtain ⟨G, rfl⟩ := Int.eq_ofNat_of_zero_le (show 0 ≤ g by omega)
  exact ⟨G, by omega, by omega, gen_of_ord hp h3⟩
/-- a line that is made so holds -/
theorem made_holds {L : List Ln} {i p : Nat} {x : Ln} (hp : Pr p) (hle : p ≤ 1048576) (hx : x.n = (p : Int)) (hg : p = 2 ∨ (1 ≤ x.g ∧ x.g < p ∧ genB x.g p ((prs (p - 1)).map fun q : Nat => (q : Int)) = true)) (hi : Idx L i x.src (prs (p - 1))) : lineB L i x = true := by
  unfold lineB
  rcases hg with rfl | ⟨g1, g2, g3⟩
  · rw [hx]; rfl
  · by_cases e : p = 2
    · subst e; rw [hx]; rfl
    · have h2 := hp.1
      rw [Bool.or_eq_true]
      right
      rw [Bool.and_eq_true]
      constructor
      · simp only [hx, Bool.not_eq_true', Bool.or_eq_false_iff, decide_eq_false_iff_not]
        exact ⟨⟨⟨by omega, by omega⟩, by omega⟩, by omega⟩
      · have hpos : 0 < p - 1 := by omega
        have hs := scan_made (L := L) (i := i) (N := p - 1) (ps := []) (fac_spec hpos) (Nat.dvd_refl _) hpos hi
        rw [show ((p - 1 : Nat) : Int) + 1 = (p : Int) by omega, show ((p - 1 : Nat) : Int) = (p : Int) - 1 by omega] at hs
        rw [hx, hs]
        show (1 == 1 && genB x.g (p : Int) ([] ++ _)) = true
        rw [List.nil_append]
        simp only [BEq.rfl, Bool.true_and]
        exact g3
end Go.Proofs.Ytceocooppjfjjaa.M

/- Worlds of TopExtends. -/
import Derived.Test.YtkodhpjmmiapaaaMay
namespace Go.Proofs.Ytkodhpjmmiapaaa
open Go.RowKit
set_option linter.unusedVariables false
set_option linter.unusedSimpArgs false
def flat7 : List (Hp × Option Addr × Nat) → List Value
  | x :: l => .int .i64 x.1.kind :: .int .i64 x.1.k :: .int .i64 x.1.l :: .slice x.2.1 x.1.body.length x.2.2 :: .int .i64 x.1.link :: .int .i64 x.1.at' :: .int .u8 (x.1.turn : Int) :: flat7 l
  | [] => []
theorem flat7_snoc : ∀ (l : List (Hp × Option Addr × Nat)) (x : Hp × Option Addr × Nat), flat7 (l ++ [x]) = flat7 l ++ [.int .i64 x.1.kind, .int .i64 x.1.k, .int .i64 x.1.l, .slice x.2.1 x.1.body.length x.2.2, .int .i64 x.1.link, .int .i64 x.1.at', .int .u8 (x.1.turn : Int)]
  | [], x => rfl
  | y :: l, x => by simp [flat7, flat7_snoc l x]
theorem flat7_at : ∀ (l : List (Hp × Option Addr × Nat)) (i : Nat) (x : Hp × Option Addr × Nat), l[i]? = some x → (flat7 l)[i * 7 + 0]? = some (.int .i64 x.1.kind) ∧ (flat7 l)[i * 7 + 1]? = some (.int .i64 x.1.k) ∧ (flat7 l)[i * 7 + 2]? = some (.int .i64 x.1.l) ∧ (flat7 l)[i * 7 + 3]? = some (.slice x.2.1 x.1.body.length x.2.2) ∧
    (flat7 l)[i * 7 + 4]? = some (.int .i64 x.1.link) ∧ (flat7 l)[i * 7 + 5]? = some (.int .i64 x.1.at') ∧ (flat7 l)[i * 7 + 6]? = some (.int .u8 (x.1.turn : Int))
  | [], i, x, h => by simp at h
  | y :: l, 0, x, h => by
    simp at h
    subst h
    exact ⟨rfl, rfl, rfl, rfl, rfl, rfl, rfl⟩
  | y :: l, i + 1, x, h => by
    have := flat7_at l i x (by simpa using h)
    rw [show (i + 1) * 7 = i * 7 + 7 by omega]
    exact this
structure ExI (w2 : World) (l : List (Hp × Option Addr × Nat)) (av : Value) (R : List (Int × List Nat)) (vs : List Value) (tv : Value) (W : World) : Prop where
  bel : Below w2.heap.size w2 W
  ao : W.ownsRow w2.heap.size 33 7 av l.length (flat7 l)
  tow : W.ownsRow w2.heap.size 35 2 tv R.length (flatR R vs)
  len : vs.length = R.length
  lr : ∀ x ∈ l, RowB w2 x.2.1 x.2.2 x.1.body ∧ x.1.turn < 256 ∧ ∀ y ∈ x.1.body, y < 256
  tr : ∀ (j : Nat) (u : Value) (r : Int × List Nat), vs[j]? = some u → R[j]? = some r → ∃ ua uc, u = .slice ua r.2.length uc ∧ RowB w2 ua uc r.2
theorem ExI.start (w2 : World) : ExI w2 [] (.slice none 0 0) [] [] (.slice none 0 0) w2 :=
  ⟨Below.refl _ _, World.ownsRow_nil _ _ _ _, World.ownsRow_nil _ _ _ _, rfl, by simp, by simp⟩
section
variable {w2 W W' : World} {l : List (Hp × Option Addr × Nat)} {av tv : Value} {R : List (Int × List Nat)} {vs : List Value}
theorem ExI.below (h : ExI w2 l av R vs tv W) (hb : Below W.heap.size W W') : ExI w2 l av R vs tv W' :=
  ⟨h.bel.trans (hb.mono h.bel.size), own_keep' h.ao hb, own_keep' h.tow hb, h.len, h.lr, h.tr⟩
theorem ExI.alone (h : ExI w2 l av R vs tv W) (hg : W.grownBy W' av.ownBlock) {av' : Value} {x : Hp × Option Addr × Nat} (ho : W'.ownsRow w2.heap.size 33 7 av' (l.length + 1) (flat7 l ++ [.int .i64 x.1.kind, .int .i64 x.1.k, .int .i64 x.1.l, .slice x.2.1 x.1.body.length x.2.2, .int .i64 x.1.link, .int .i64 x.1.at', .int .u8 (x.1.turn : Int)]))
    (hx : RowB w2 x.2.1 x.2.2 x.1.body ∧ x.1.turn < 256 ∧ ∀ y ∈ x.1.body, y < 256) : ExI w2 (l ++ [x]) av' R vs tv W' :=
  ⟨h.bel.grown hg h.bel.size (fun k hk => (h.ao.lt k hk).1), by rw [flat7_snoc, List.length_append]; exact ho, own_grown h.tow h.ao (by decide) hg, h.len, fun y hy => by
    rcases List.mem_append.1 hy with h1 | h1
    · exact h.lr y h1
    · rw [List.mem_singleton.1 h1]; exact hx, h.tr⟩
theorem ExI.told (h : ExI w2 l av R vs tv W) (hg : W.grownBy W' tv.ownBlock) {tv' v : Value} {r : Int × List Nat} (ho : W'.ownsRow w2.heap.size 35 2 tv' (R.length + 1) (flatR R vs ++ [.int .i64 r.1, v])) (hv : ∃ ua uc, v = .slice ua r.2.length uc ∧ RowB w2 ua uc r.2) :
    ExI w2 l av (R ++ [r]) (vs ++ [v]) tv' W' := by
  refine ⟨h.bel.grown hg h.bel.size (fun k hk => (h.tow.lt k hk).1), own_grown h.ao h.tow (by decide) hg, by rw [flatR_snoc R vs r v h.len, List.length_append]; exact ho, by simp [h.len], h.lr, fun j u q h1 h2 => ?_⟩
  by_cases hj : j < R.length
  · rw [List.getElem?_append_left (by rw [h.len]; exact hj)] at h1
    rw [List.getElem?_append_left hj] at h2
    exact h.tr j u q h1 h2
  · have hj2 : j = R.length := by
      have := (List.getElem?_eq_some_iff.1 h2).1
      simp at this
      omega
    subst hj2
    rw [← h.len] at h1
    rw [List.getElem?_append_right (Nat.le_refl _)] at h1 h2
    simp at h1 h2
    subst h1 h2
    exact hv
theorem ExI.rowHop (h : ExI w2 l av R vs tv W) : ∃ a c, av = .slice a l.length c ∧ ∃ Rr, RowHop W a Rr (l.map (·.1)) := by
  rcases h.ao.2 with ⟨h1, h2⟩ | ⟨g, cap, cur, h1, h2, h3, h4, h5, h6, h7⟩
  · have : l = [] := List.eq_nil_of_length_eq_zero h2
    subst this
    exact ⟨none, 0, h1, fun _ => (none, 0), ⟨fun _ => rfl, (fun ad e => by cases e), (fun i x hx => by simp at hx), by simp⟩⟩
  · have cell : ∀ j x, (flat7 l)[j]? = some x → W.cell? ((⟨g, 0, none⟩ : Addr).add j) = some x := fun j x hx => by
      rw [← h7, List.getElem?_take] at hx
      rw [Addr.add_lit, Nat.zero_add]
      split at hx
      · simp [World.cell?, h3]
        simpa using hx
      · cases hx
    have at' : ∀ (i : Nat) (x : Hp), (l.map (·.1))[i]? = some x → ∃ y, l[i]? = some y ∧ y.1 = x := fun i x hx => by
      rw [List.getElem?_map] at hx
      cases hy : l[i]? with
      | none => rw [hy] at hx; cases hx
      | some y => rw [hy] at hx; exact ⟨y, rfl, by simpa using hx⟩
    refine ⟨_, cap, h1, fun i => (l.getD i default).2, ⟨(fun e => by cases e), fun ad e i x hx => ?_, fun i x hx => ?_, fun x hx => ?_⟩⟩
    · cases e
      obtain ⟨y, hy, rfl⟩ := at' i x hx
      have hgd : l.getD i default = y := by rw [List.getD_eq_getElem?_getD, hy]; rfl
      obtain ⟨f0, f1, f2, f3, f4, f5, f6⟩ := flat7_at l i y hy
      exact ⟨cell _ _ f0, cell _ _ f1, cell _ _ f2, by rw [hgd]; exact cell _ _ f3, cell _ _ f4, cell _ _ f5, cell _ _ f6⟩
    · obtain ⟨y, hy, rfl⟩ := at' i x hx
      have hgd : l.getD i default = y := by rw [List.getD_eq_getElem?_getD, hy]; rfl
      rw [hgd]
      exact (h.lr y (List.mem_of_getElem? hy)).1.below h.bel (Nat.le_refl _)
    · obtain ⟨y, hy, rfl⟩ := List.mem_map.1 hx
      exact (h.lr y hy).2
theorem ExI.view (h : ExI w2 l av R vs tv W) : ∃ a c, tv = .slice a R.length c ∧ HopV W a R := by
  rcases h.tow.2 with ⟨h1, h2⟩ | ⟨g, cap, cur, h1, h2, h3, h4, h5, h6, h7⟩
  · have : R = [] := List.eq_nil_of_length_eq_zero h2
    subst this
    exact ⟨none, 0, h1, fun i r hr => by simp at hr⟩
  · refine ⟨_, cap, h1, fun i r hr => ?_⟩
    have hi : i < R.length := (List.getElem?_eq_some_iff.1 hr).1
    obtain ⟨u, hu⟩ : ∃ u, vs[i]? = some u := ⟨_, List.getElem?_eq_getElem (by rw [h.len]; exact hi)⟩
    obtain ⟨f0, f1⟩ := flatR_at R vs i r u hr hu
    have cell : ∀ j x, (flatR R vs)[j]? = some x → W.cell? ⟨g, j, none⟩ = some x := fun j x hx => by
      rw [← h7, List.getElem?_take] at hx
      split at hx
      · simp [World.cell?, h3]
        simpa using hx
      · cases hx
    obtain ⟨ua, uc, rfl, hrow⟩ := h.tr i u r hu hr
    exact ⟨g, ua, uc, rfl, cell _ _ f0, cell _ _ f1, hrow.below h.bel (Nat.le_refl _)⟩
end
end Go.Proofs.Ytkodhpjmmiapaaa

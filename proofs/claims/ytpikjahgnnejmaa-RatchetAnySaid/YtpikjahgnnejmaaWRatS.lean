/- Plain, and worlds, for the laws of the ratchet. -/
import Derived.Test.YtpikjahgnnejmaaPlay
namespace Go.Proofs.Ytpikjahgnnejmaa
open Go.RowKit Go.Maps
set_option linter.unusedVariables false
set_option linter.unusedSimpArgs false
theorem playR_append (k0 most : Nat) : ∀ (a b : List Po) (S : RS), playR k0 most S (a ++ b) = ((playR k0 most S a).1 ++ (playR k0 most (playR k0 most S a).2 b).1, (playR k0 most (playR k0 most S a).2 b).2)
  | [], b, S => by show _ = ([] ++ _, _); rw [List.nil_append]; rfl
  | q :: t, b, S => by
    show ((stepR k0 most S q).1 :: (playR k0 most (stepR k0 most S q).2 (t ++ b)).1, (playR k0 most (stepR k0 most S q).2 (t ++ b)).2) = _
    rw [playR_append k0 most t b]
    rfl
/-- who stands where before post i -/
def stAt (k0 most : Nat) (z : List Po) (i : Nat) : RS := (playR k0 most rs0 (z.take i)).2
theorem stAt_succ {k0 most i : Nat} {z : List Po} {x : Po} (h : z[i]? = some x) : stAt k0 most z (i + 1) = (stepR k0 most (stAt k0 most z i) x).2 := by
  unfold stAt
  rw [List.take_add_one, h]
  show (playR k0 most rs0 (z.take i ++ [x])).2 = _
  rw [playR_snoc]
theorem outs_at {k0 most i : Nat} {z : List Po} {x : Po} (h : z[i]? = some x) : (playR k0 most rs0 z).1[i]? = some (stepR k0 most (stAt k0 most z i) x).1 := by
  have hi := (List.getElem?_eq_some_iff.1 h).1
  have e : z = z.take i ++ (x :: z.drop (i + 1)) := by
    have h1 : z.drop i = x :: z.drop (i + 1) := by
      rw [List.drop_eq_getElem_cons hi]
      congr 1
      exact (List.getElem?_eq_some_iff.1 h).2
    rw [← h1, List.take_append_drop]
  have hl : (playR k0 most rs0 (z.take i)).1.length = i := by rw [playR_len, List.length_take]; omega
  conv => lhs; rw [e]
  rw [playR_append]
  show ((playR k0 most rs0 (z.take i)).1 ++ _)[i]? = _
  rw [List.getElem?_append_right (by omega), hl, Nat.sub_self]
  rfl
/-- what a post does to the list of those that came -/
def Came (S : RS) (C : List Nat) : Prop := ∀ m ∈ C, m < S.at' ∧ m ∉ S.kept
theorem step_take {k0 most M A : Nat} {K C : List Nat} (hd : K.Nodup) (hl : ∀ i ∈ K, i < A) (hC : ∀ m ∈ C, m < A ∧ m ∉ K) (h : (openN k0 most A K M).1.2 = 0) :
    M ∉ C ∧ ∀ m ∈ C ++ [M], m < (openN k0 most A K M).2.1 ∧ m ∉ (openN k0 most A K M).2.2 := by
  unfold openN at h ⊢
  by_cases h1 : M < A
  · rw [if_pos h1] at h ⊢
    by_cases h2 : M ∈ K
    · rw [if_pos h2] at h ⊢
      refine ⟨fun hm => (hC M hm).2 h2, fun m hm => ?_⟩
      rcases List.mem_append.1 hm with h3 | h3
      · exact ⟨(hC m h3).1, fun h4 => (hC m h3).2 (List.mem_of_mem_erase h4)⟩
      · rw [List.mem_singleton.1 h3]
        exact ⟨h1, fun h4 => (hd.mem_erase_iff.1 h4).1 rfl⟩
    · rw [if_neg h2] at h; cases h
  · rw [if_neg h1] at h ⊢
    by_cases h2 : most < K.length + M - A
    · rw [if_pos h2] at h; cases h
    · rw [if_neg h2] at h ⊢
      refine ⟨fun hm => h1 (hC M hm).1, fun m hm => ?_⟩
      rcases List.mem_append.1 hm with h3 | h3
      · have h5 := hC m h3
        refine ⟨by show m < M + 1; omega, fun h4 => ?_⟩
        rcases List.mem_append.1 h4 with h6 | h6
        · exact h5.2 h6
        · obtain ⟨c, hc, e⟩ := List.mem_map.1 h6
          have := List.mem_range.1 hc
          omega
      · rw [List.mem_singleton.1 h3]
        refine ⟨by show M < M + 1; omega, fun h4 => ?_⟩
        rcases List.mem_append.1 h4 with h6 | h6
        · exact h1 (hl M h6)
        · obtain ⟨c, hc, e⟩ := List.mem_map.1 h6
          have := List.mem_range.1 hc
          omega
theorem openN_bad {k0 most A n : Nat} {K : List Nat} (h : (openN k0 most A K n).1.2 ≠ 0) : (openN k0 most A K n).2.1 = A ∧ (openN k0 most A K n).2.2 = K := by
  unfold openN at h ⊢
  split <;> rename_i h1
  · split <;> rename_i h2
    · rw [if_pos h1, if_pos h2] at h; exact absurd rfl h
    · exact ⟨rfl, rfl⟩
  · split <;> rename_i h2
    · exact ⟨rfl, rfl⟩
    · rw [if_neg h1, if_neg h2] at h; exact absurd rfl h
theorem step_cases {k0 most I : Nat} {S : RS} {C : List Nat} (x : Po) (hI : RInv S I) (hC : Came S C) :
    (x.kind = 1 ∧ (stepR k0 most S x).1.1 = 0 ∧ (stepR k0 most S x).2 = { S with sent := S.sent ++ [x.n.toNat] } ∧ 0 ≤ x.n ∧ x.n < 65536) ∨
    ((stepR k0 most S x).2 = S ∧ (x.kind = 1 ∧ (stepR k0 most S x).1.1 ≠ 0 ∨ (x.kind ≠ 1 ∧ x.kind ≠ 2) ∨ (x.kind = 2 ∧ (stepR k0 most S x).1.1 ≠ 0))) ∨
    (x.kind = 2 ∧ (stepR k0 most S x).1.1 = 0 ∧ 0 ≤ x.msg ∧ x.msg < (S.sent.length : Int) ∧ (stepR k0 most S x).1.2 = ((S.sent.getD x.msg.toNat 0 : Nat) : Int) ∧ x.msg.toNat ∉ C ∧ (stepR k0 most S x).2.sent = S.sent ∧ Came (stepR k0 most S x).2 (C ++ [x.msg.toNat])) := by
  unfold stepR
  by_cases h1 : x.kind = 1
  · simp only [if_pos h1]
    by_cases h2 : x.n < 0 ∨ 65536 ≤ x.n
    · simp only [if_pos h2]
      exact .inr (.inl ⟨by trivial, .inl ⟨h1, by decide⟩⟩)
    · simp only [if_neg h2]
      exact .inl ⟨h1, by trivial, by trivial, by omega, by omega⟩
  · simp only [if_neg h1]
    by_cases h2 : x.kind = 2
    · have h2' : ¬ x.kind ≠ 2 := fun h => h h2
      simp only [if_neg h2']
      by_cases h3 : x.msg < 0 ∨ (S.sent.length : Int) ≤ x.msg
      · simp only [if_pos h3]
        exact .inr (.inl ⟨by trivial, .inr (.inr ⟨h2, by decide⟩)⟩)
      · simp only [if_neg h3]
        by_cases h4 : (openN k0 most S.at' S.kept x.msg.toNat).1.2 = 0
        · obtain ⟨q1, q2⟩ := step_take hI.nd hI.lt hC h4
          exact .inr (.inr ⟨h2, by rw [h4]; rfl, by omega, by omega, by rw [if_pos h4], q1, by trivial, q2⟩)
        · obtain ⟨q1, q2⟩ := openN_bad h4
          exact .inr (.inl ⟨by rw [q1, q2], .inr (.inr ⟨h2, by omega⟩)⟩)
    · simp only [if_pos h2]
      exact .inr (.inl ⟨by trivial, .inr (.inl ⟨h1, h2⟩)⟩)
def natV (l : List Nat) : List Value := l.map fun (n : Nat) => Value.int .i64 (n : Int)
theorem natV_snoc (l : List Nat) (x : Nat) : natV (l ++ [x]) = natV l ++ [.int .i64 (x : Int)] := by simp [natV]
structure PC (B : World) (sent come : List Nat) (v1 v2 : Value) (W : World) : Prop where
  bel : Below B.heap.size B W
  snt : W.ownsRow B.heap.size 3 1 v1 sent.length (natV sent)
  cm : W.ownsRow B.heap.size 3 1 v2 come.length (natV come)
  sep : ∀ g, v1.ownBlock = some g → v2.ownBlock ≠ some g
theorem PC.below {B W W' : World} {sent come : List Nat} {v1 v2 : Value} (h : PC B sent come v1 v2 W) (hb : Below W.heap.size W W') : PC B sent come v1 v2 W' :=
  ⟨h.bel.trans (hb.mono h.bel.size), ownsRow_block h.snt fun g e => hb.block g (h.snt.lt g e).2, ownsRow_block h.cm fun g e => hb.block g (h.cm.lt g e).2, h.sep⟩
theorem PC.push1 {B W w3 : World} {sent come : List Nat} {v1 v2 v' : Value} {o : Obj} {x : Nat} (h : PC B sent come v1 v2 W) (hown : w3.ownsRow B.heap.size 3 1 v' (sent.length + 1) (natV sent ++ [.int .i64 (x : Int)]))
    (hg : (W.alloc o).grownBy w3 v1.ownBlock) (hat : v'.ownBlock = v1.ownBlock ∨ v'.ownBlock = some (W.alloc o).heap.size) : PC B (sent ++ [x]) come v' v2 w3 := by
  have hs := h.bel.size
  refine ⟨(h.bel.alloc hs o).grown hg (by simp; omega) (fun k e => (h.snt.lt k e).1), by rw [natV_snoc, List.length_append, List.length_singleton]; exact hown, ownsRow_block h.cm fun g e => ?_, fun g e => ?_⟩
  · have hl := (h.cm.lt g e).2
    rw [hg.block g (by simp; omega) (fun e2 => h.sep g e2.symm e), Below.heap_alloc _ _ _ hl]
  · rcases hat with e2 | e2
    · exact h.sep g (e2 ▸ e)
    · intro e3
      have := (h.cm.lt g e3).2
      rw [e2] at e
      have := Option.some.inj e
      simp at this
      omega
theorem PC.push2 {B W w3 : World} {sent come : List Nat} {v1 v2 v' : Value} {o : Obj} {x : Nat} (h : PC B sent come v1 v2 W) (hown : w3.ownsRow B.heap.size 3 1 v' (come.length + 1) (natV come ++ [.int .i64 (x : Int)]))
    (hg : (W.alloc o).grownBy w3 v2.ownBlock) (hat : v'.ownBlock = v2.ownBlock ∨ v'.ownBlock = some (W.alloc o).heap.size) : PC B sent (come ++ [x]) v1 v' w3 := by
  have hs := h.bel.size
  refine ⟨(h.bel.alloc hs o).grown hg (by simp; omega) (fun k e => (h.cm.lt k e).1), ownsRow_block h.snt fun g e => ?_, by rw [natV_snoc, List.length_append, List.length_singleton]; exact hown, fun g e e3 => ?_⟩
  · have hl := (h.snt.lt g e).2
    rw [hg.block g (by simp; omega) (fun e2 => h.sep g e e2.symm), Below.heap_alloc _ _ _ hl]
  · rcases hat with e2 | e2
    · exact h.sep g e (e2 ▸ e3)
    · have := (h.snt.lt g e).2
      rw [e2] at e3
      have := Option.some.inj e3
      simp at this
      omega
theorem own_shape1 {W : World} {base : Nat} {v : Value} {L : List Nat} (h : W.ownsRow base 3 1 v L.length (natV L)) : ∃ a c, v = .slice a L.length c ∧ ∀ M, M < L.length → ∃ g, a = some ⟨g, 0, none⟩ ∧ W.cell? ⟨g, M, none⟩ = some (.int .i64 ((L.getD M 0 : Nat) : Int)) := by
  rcases h.2 with ⟨rfl, h0⟩ | ⟨g, c', cur, rfl, _⟩
  · exact ⟨none, 0, by rw [h0], fun M hM => by omega⟩
  · refine ⟨_, c', rfl, fun M hM => ⟨g, rfl, ?_⟩⟩
    rw [h.cellAt M (by omega)]
    unfold natV
    simp [hM]
theorem outs_shape {W : World} {base k0 most : Nat} {v : Value} {z : List Po} (h : W.ownsRow base 62 2 v z.length (flatT (playR k0 most rs0 z).1)) : ∃ a c, v = .slice a z.length c ∧ (z.length = 0 ∨ ∃ g, a = some ⟨g, 0, none⟩ ∧ ∀ i x, z[i]? = some x →
    W.cell? ⟨g, i * 2, none⟩ = some (.int .i64 (stepR k0 most (stAt k0 most z i) x).1.1) ∧ W.cell? ⟨g, i * 2 + 1, none⟩ = some (.int .i64 (stepR k0 most (stAt k0 most z i) x).1.2)) := by
  have key : ∀ (l : List (Int × Int)) (i : Nat) (p : Int × Int), l[i]? = some p → (flatT l)[i * 2]? = some (.int .i64 p.1) ∧ (flatT l)[i * 2 + 1]? = some (.int .i64 p.2) := by
    intro l
    induction l with
    | nil => intro i p h; simp at h
    | cons q t ih =>
      intro i p h
      show (.int .i64 q.1 :: .int .i64 q.2 :: flatT t)[i * 2]? = _ ∧ (.int .i64 q.1 :: .int .i64 q.2 :: flatT t)[i * 2 + 1]? = _
      cases i with
      | zero => simp at h; subst h; exact ⟨rfl, rfl⟩
      | succ i =>
        simp only [List.getElem?_cons_succ] at h
        have := ih i p h
        rw [show (i + 1) * 2 = i * 2 + 1 + 1 by omega]
        simpa only [List.getElem?_cons_succ] using this
  rcases h.2 with ⟨rfl, h0⟩ | ⟨g, c', cur, rfl, _⟩
  · exact ⟨none, 0, by rw [h0], .inl h0⟩
  · refine ⟨_, c', rfl, .inr ⟨g, rfl, fun i x hx => ?_⟩⟩
    have hi := (List.getElem?_eq_some_iff.1 hx).1
    obtain ⟨q1, q2⟩ := key _ i _ (outs_at (k0 := k0) (most := most) hx)
    exact ⟨by rw [h.cellAt (i * 2) (by omega), q1], by rw [h.cellAt (i * 2 + 1) (by omega), q2]⟩
end Go.Proofs.Ytpikjahgnnejmaa

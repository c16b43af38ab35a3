/- Plain: RatchetAny. -/
import Derived.Test.YtpikjahgnnejmaaWRatS
namespace Go.Proofs.Ytpikjahgnnejmaa
open Go.RowKit Go.Maps
set_option linter.unusedVariables false
set_option linter.unusedSimpArgs false
def sendsL (l : List Int) : List Po := l.map fun n => ⟨1, 0, n⟩
def takesL (l : List Nat) : List Po := l.map fun (m : Nat) => (⟨2, (m : Int), 0⟩ : Po)
theorem sends_play (k0 most : Nat) : ∀ (l : List Int) (S : RS), (∀ n ∈ l, 0 ≤ n ∧ n < 65536) → (playR k0 most S (sendsL l)).2 = { S with sent := S.sent ++ l.map Int.toNat }
  | [], S, h => by simp [sendsL, playR]
  | n :: t, S, h => by
    have h1 := h n (by simp)
    show (playR k0 most (stepR k0 most S ⟨1, 0, n⟩).2 (sendsL t)).2 = _
    have e : (stepR k0 most S ⟨1, 0, n⟩).2 = { S with sent := S.sent ++ [n.toNat] } := by
      unfold stepR
      rw [if_pos rfl, if_neg (by show ¬ (n < 0 ∨ 65536 ≤ n); omega)]
    rw [e, sends_play k0 most t _ fun x hx => h x (List.mem_cons_of_mem _ hx)]
    simp
/-- before a taking: what was passed and not kept has been taken -/
structure TI (S : RS) (n : Nat) (done : List Nat) : Prop where
  nd : S.kept.Nodup
  lt : ∀ i ∈ S.kept, i < S.at'
  out : ∀ i, i < S.at' → i ∈ S.kept ∨ i ∈ done
  len : S.sent.length = n
theorem TI.take {k0 n : Nat} {S : RS} {done : List Nat} (h : TI S n done) {m : Nat} (hm : m < n) (hd : m ∉ done) :
    (stepR k0 n S ⟨2, (m : Int), 0⟩).1 = (0, ((S.sent.getD m 0 : Nat) : Int)) ∧ TI (stepR k0 n S ⟨2, (m : Int), 0⟩).2 n (m :: done) ∧ (stepR k0 n S ⟨2, (m : Int), 0⟩).2.sent = S.sent := by
  have hl := nodup_lt h.nd h.lt
  have e : stepR k0 n S ⟨2, (m : Int), 0⟩ = (((((openN k0 n S.at' S.kept m).1.2 : Nat) : Int), if (openN k0 n S.at' S.kept m).1.2 = 0 then ((S.sent.getD m 0 : Nat) : Int) else 0), { S with at' := (openN k0 n S.at' S.kept m).2.1, kept := (openN k0 n S.at' S.kept m).2.2 }) := by
    unfold stepR
    rw [if_neg (show ¬ (2 : Int) = 1 by decide), if_neg (show ¬ (2 : Int) ≠ 2 by decide), if_neg (by have := h.len; show ¬ ((m : Int) < 0 ∨ (S.sent.length : Int) ≤ (m : Int)); omega)]
    rfl
  rw [e]
  have hlen := h.len
  unfold openN
  by_cases h1 : m < S.at'
  · have h2 : m ∈ S.kept := (h.out m h1).resolve_right hd
    simp only [if_pos h1, if_pos h2]
    refine ⟨by simp, ⟨h.nd.erase m, fun i hi => h.lt i (List.mem_of_mem_erase hi), fun i hi => ?_, hlen⟩, by trivial⟩
    by_cases e : i = m
    · exact .inr (by simp [e])
    · rcases h.out i hi with h3 | h3
      · exact .inl ((List.mem_erase_of_ne e).2 h3)
      · exact .inr (List.mem_cons_of_mem _ h3)
  · have h2 : ¬ n < S.kept.length + m - S.at' := by omega
    simp only [if_neg h1, if_neg h2]
    refine ⟨by simp, ⟨?_, fun i hi => ?_, fun i hi => ?_, hlen⟩, by trivial⟩
    · refine List.nodup_append.2 ⟨h.nd, ?_, fun a ha b hb => ?_⟩
      · rw [List.Nodup, List.pairwise_map]
        exact List.nodup_range.imp fun h e => h (by omega)
      · obtain ⟨c, hc, rfl⟩ := List.mem_map.1 hb
        have := h.lt a ha
        omega
    · show i < m + 1
      rcases List.mem_append.1 hi with h3 | h3
      · have := h.lt i h3; omega
      · obtain ⟨c, hc, rfl⟩ := List.mem_map.1 h3
        have := List.mem_range.1 hc
        omega
    · have hi' : i < m + 1 := hi
      by_cases e : i = m
      · exact .inr (by simp [e])
      · by_cases h3 : i < S.at'
        · rcases h.out i h3 with h4 | h4
          · exact .inl (List.mem_append_left _ h4)
          · exact .inr (List.mem_cons_of_mem _ h4)
        · exact .inl (List.mem_append_right _ (List.mem_map.2 ⟨i - S.at', List.mem_range.2 (by omega), by omega⟩))
theorem takes_play {k0 n : Nat} {sent : List Nat} : ∀ (tk : List Nat) (S : RS) (done : List Nat), TI S n done → S.sent = sent → tk.Nodup → (∀ m ∈ tk, m < n ∧ m ∉ done) → (playR k0 n S (takesL tk)).1 = tk.map fun (m : Nat) => ((0 : Int), ((sent.getD m 0 : Nat) : Int))
  | [], S, done, h, hs, hn, hd => rfl
  | m :: t, S, done, h, hs, hn, hd => by
    obtain ⟨h1, h2⟩ := hd m (by simp)
    obtain ⟨q1, q2, q3⟩ := h.take (k0 := k0) h1 h2
    have hn2 := List.nodup_cons.1 hn
    show (stepR k0 n S ⟨2, (m : Int), 0⟩).1 :: (playR k0 n (stepR k0 n S ⟨2, (m : Int), 0⟩).2 (takesL t)).1 = _
    rw [takes_play t _ (m :: done) q2 (q3.trans hs) hn2.2 fun x hx => ⟨(hd x (List.mem_cons_of_mem _ hx)).1, fun hx2 => by
      rcases List.mem_cons.1 hx2 with e | e
      · exact hn2.1 (e ▸ hx)
      · exact (hd x (List.mem_cons_of_mem _ hx)).2 e⟩, q1, hs]
    rfl
theorem any_law {k0 : Nat} {l : List Int} {tk : List Nat} (hl : ∀ n ∈ l, 0 ≤ n ∧ n < 65536) (hn : tk.Nodup) (hlt : ∀ m ∈ tk, m < l.length) {k m : Nat} (hk : tk[k]? = some m) :
    (playR k0 l.length rs0 (sendsL l ++ takesL tk)).1[l.length + k]? = some (0, l.getD m 0) := by
  have h1 := sends_play k0 l.length l rs0 hl
  rw [playR_append, h1]
  have hlen : (playR k0 l.length rs0 (sendsL l)).1.length = l.length := by rw [playR_len]; simp [sendsL]
  show ((playR k0 l.length rs0 (sendsL l)).1 ++ _)[l.length + k]? = _
  rw [List.getElem?_append_right (by omega), hlen, Nat.add_sub_cancel_left]
  have ht : TI { rs0 with sent := rs0.sent ++ l.map Int.toNat } l.length [] := ⟨List.nodup_nil, (fun i h => by cases h), (fun i h => absurd h (Nat.not_lt_zero _)), by simp [rs0]⟩
  rw [takes_play tk _ [] ht rfl hn fun m hm => ⟨hlt m hm, by simp⟩, List.getElem?_map, hk]
  have hm := hlt m (List.mem_of_getElem? hk)
  have h0 := hl _ (List.getElem_mem hm)
  simp [rs0, hm]
  omega
def flat3 (l : List Po) : List Value := l.flatMap fun p => [.int .i64 p.kind, .int .i64 p.msg, .int .i64 p.n]
theorem flat3_snoc (l : List Po) (p : Po) : flat3 (l ++ [p]) = flat3 l ++ [.int .i64 p.kind, .int .i64 p.msg, .int .i64 p.n] := by simp [flat3]
theorem flat3_at : ∀ (l : List Po) (i : Nat) (p : Po), l[i]? = some p → (flat3 l)[i * 3 + 0]? = some (.int .i64 p.kind) ∧ (flat3 l)[i * 3 + 1]? = some (.int .i64 p.msg) ∧ (flat3 l)[i * 3 + 2]? = some (.int .i64 p.n)
  | [], i, p, h => by simp at h
  | q :: t, 0, p, h => by simp at h; subst h; exact ⟨rfl, rfl, rfl⟩
  | q :: t, i + 1, p, h => by
    simp only [List.getElem?_cons_succ] at h
    have ih := flat3_at t i p h
    show (.int .i64 q.kind :: .int .i64 q.msg :: .int .i64 q.n :: flat3 t)[(i + 1) * 3 + 0]? = _ ∧ (.int .i64 q.kind :: .int .i64 q.msg :: .int .i64 q.n :: flat3 t)[(i + 1) * 3 + 1]? = _ ∧ (.int .i64 q.kind :: .int .i64 q.msg :: .int .i64 q.n :: flat3 t)[(i + 1) * 3 + 2]? = _
    rw [Nat.add_zero] at ih
    rw [show (i + 1) * 3 + 0 = i * 3 + 1 + 1 + 1 by omega, show (i + 1) * 3 + 1 = i * 3 + 1 + 1 + 1 + 1 by omega, show (i + 1) * 3 + 2 = i * 3 + 2 + 1 + 1 + 1 by omega]
    simpa only [List.getElem?_cons_succ] using ih
theorem posts_of {W : World} {B : Nat} {v : Value} {z : List Po} (h : W.ownsRow B 60 3 v z.length (flat3 z)) (hf : ∀ x ∈ z, fits x.kind ∧ fits x.msg ∧ fits x.n) : ∃ a c, v = .slice a z.length c ∧ IsPosts W a z.length c z := by
  have hm : z.length ≤ maxLen := by
    rcases h.2 with ⟨_, h0⟩ | ⟨g, c', cur, _, _, _, q1, q2, _⟩
    · rw [h0]; exact Nat.zero_le _
    · omega
  have hm2 : z.length ≤ 9223372036854775807 := by unfold maxLen at hm; omega
  rcases h.2 with ⟨rfl, h0⟩ | ⟨g, c', cur, rfl, _⟩
  · refine ⟨none, 0, by rw [h0], rfl, hm2, ⟨fun _ => List.length_eq_zero_iff.1 h0, (fun ad e => by cases e)⟩, hf⟩
  · refine ⟨_, c', rfl, rfl, hm2, ⟨(fun e => by cases e), fun ad e i x hx => ?_⟩, hf⟩
    cases e
    obtain ⟨q0, q1, q2⟩ := flat3_at z i x hx
    have hi := (List.getElem?_eq_some_iff.1 hx).1
    rw [addr_lit, addr_lit, addr_lit]
    simp only [Nat.zero_add]
    exact ⟨by rw [h.cellAt _ (by omega), q0], by rw [h.cellAt _ (by omega), q1], by rw [h.cellAt _ (by omega), q2]⟩
/-- the three slices that grow -/
structure RA (B : World) (zs : List Po) (tk lf : List Nat) (v7 v12 v10 : Value) (W : World) : Prop where
  bel : Below B.heap.size B W
  scr : W.ownsRow B.heap.size 60 3 v7 zs.length (flat3 zs)
  tok : W.ownsRow B.heap.size 3 1 v12 tk.length (natV tk)
  lef : W.ownsRow B.heap.size 3 1 v10 lf.length (natV lf)
  sep : ∀ g, v12.ownBlock = some g → v10.ownBlock ≠ some g
theorem RA.init (B : World) : RA B [] [] [] (.slice none 0 0) (.slice none 0 0) (.slice none 0 0) B :=
  ⟨Below.refl _ _, World.ownsRow_nil _ _ _ _, World.ownsRow_nil _ _ _ _, World.ownsRow_nil _ _ _ _, fun g e => by cases e⟩
theorem RA.pushS {B W w3 : World} {zs : List Po} {tk lf : List Nat} {v7 v12 v10 v' : Value} {o : Obj} {p : Po} (h : RA B zs tk lf v7 v12 v10 W) (hown : w3.ownsRow B.heap.size 60 3 v' (zs.length + 1) (flat3 zs ++ [.int .i64 p.kind, .int .i64 p.msg, .int .i64 p.n]))
    (hg : (W.alloc o).grownBy w3 v7.ownBlock) : RA B (zs ++ [p]) tk lf v' v12 v10 w3 := by
  have hs := h.bel.size
  refine ⟨(h.bel.alloc hs o).grown hg (by simp; omega) (fun k e => (h.scr.lt k e).1), by rw [flat3_snoc, List.length_append, List.length_singleton]; exact hown, ownsRow_block h.tok fun g e => ?_, ownsRow_block h.lef fun g e => ?_, h.sep⟩
  · have hl := (h.tok.lt g e).2
    rw [hg.block g (by simp; omega) (fun e2 => rows_two h.scr h.tok (by decide) e2.symm e), Below.heap_alloc _ _ _ hl]
  · have hl := (h.lef.lt g e).2
    rw [hg.block g (by simp; omega) (fun e2 => rows_two h.scr h.lef (by decide) e2.symm e), Below.heap_alloc _ _ _ hl]
theorem RA.pushT {B W w3 : World} {zs : List Po} {tk lf : List Nat} {v7 v12 v10 v' : Value} {o : Obj} {x : Nat} (h : RA B zs tk lf v7 v12 v10 W) (hown : w3.ownsRow B.heap.size 3 1 v' (tk.length + 1) (natV tk ++ [.int .i64 (x : Int)]))
    (hg : (W.alloc o).grownBy w3 v12.ownBlock) (hat : v'.ownBlock = v12.ownBlock ∨ v'.ownBlock = some (W.alloc o).heap.size) : RA B zs (tk ++ [x]) lf v7 v' v10 w3 := by
  have hs := h.bel.size
  refine ⟨(h.bel.alloc hs o).grown hg (by simp; omega) (fun k e => (h.tok.lt k e).1), ownsRow_block h.scr fun g e => ?_, by rw [natV_snoc, List.length_append, List.length_singleton]; exact hown, ownsRow_block h.lef fun g e => ?_, fun g e e3 => ?_⟩
  · have hl := (h.scr.lt g e).2
    rw [hg.block g (by simp; omega) (fun e2 => rows_two h.scr h.tok (by decide) e e2.symm), Below.heap_alloc _ _ _ hl]
  · have hl := (h.lef.lt g e).2
    rw [hg.block g (by simp; omega) (fun e2 => h.sep g e2.symm e), Below.heap_alloc _ _ _ hl]
  · rcases hat with e2 | e2
    · exact h.sep g (e2 ▸ e) e3
    · have := (h.lef.lt g e3).2
      rw [e2] at e
      have := Option.some.inj e
      simp at this
      omega
theorem RA.pushL {B W w3 : World} {zs : List Po} {tk lf : List Nat} {v7 v12 v10 v' : Value} {o : Obj} {x : Nat} (h : RA B zs tk lf v7 v12 v10 W) (hown : w3.ownsRow B.heap.size 3 1 v' (lf.length + 1) (natV lf ++ [.int .i64 (x : Int)]))
    (hg : (W.alloc o).grownBy w3 v10.ownBlock) (hat : v'.ownBlock = v10.ownBlock ∨ v'.ownBlock = some (W.alloc o).heap.size) : RA B zs tk (lf ++ [x]) v7 v12 v' w3 := by
  have hs := h.bel.size
  refine ⟨(h.bel.alloc hs o).grown hg (by simp; omega) (fun k e => (h.lef.lt k e).1), ownsRow_block h.scr fun g e => ?_, ownsRow_block h.tok fun g e => ?_, by rw [natV_snoc, List.length_append, List.length_singleton]; exact hown, fun g e e3 => ?_⟩
  · have hl := (h.scr.lt g e).2
    rw [hg.block g (by simp; omega) (fun e2 => rows_two h.scr h.lef (by decide) e e2.symm), Below.heap_alloc _ _ _ hl]
  · have hl := (h.tok.lt g e).2
    rw [hg.block g (by simp; omega) (fun e2 => h.sep g e e2.symm), Below.heap_alloc _ _ _ hl]
  · rcases hat with e2 | e2
    · exact h.sep g e (e2 ▸ e3)
    · have := (h.tok.lt g e).2
      rw [e2] at e3
      have := Option.some.inj e3
      simp at this
      omega
theorem RA.below {B W W' : World} {zs : List Po} {tk lf : List Nat} {v7 v12 v10 : Value} (h : RA B zs tk lf v7 v12 v10 W) (hb : Below W.heap.size W W') : RA B zs tk lf v7 v12 v10 W' :=
  ⟨h.bel.trans (hb.mono h.bel.size), ownsRow_block h.scr fun g e => hb.block g (h.scr.lt g e).2, ownsRow_block h.tok fun g e => hb.block g (h.tok.lt g e).2, ownsRow_block h.lef fun g e => hb.block g (h.lef.lt g e).2, h.sep⟩
/-- left is made anew -/
theorem RA.newL {B W W' : World} {zs : List Po} {tk lf lf' : List Nat} {v7 v12 v10 v' : Value} (h : RA B zs tk lf v7 v12 v10 W) (hb : Below W.heap.size W W') (hown : W'.ownsRow W.heap.size 3 1 v' lf'.length (natV lf')) : RA B zs tk lf' v7 v12 v' W' := by
  have h2 := h.below hb
  refine ⟨h2.bel, h2.scr, h2.tok, own_le hown h.bel.size, fun g e e2 => ?_⟩
  have := (hown.lt g e2).1
  have := (h.tok.lt g e).2
  omega
theorem step_app_own {P : Program} {ops : Array Oper} {o : Oper} {a : Act} {w : World} {K : Act → World → Prop} {Q : Exit → Act → World → Prop} {E : Prop} (hgd : o.guard = none) (s x : Operand) (t : TypeId)
    (ho : o.op = .call { callee := .builtin .append, args := #[s, x], argTypes := #[t, t] })
    (base : Nat) (e : TypeId) (i : TypeInfo) (z : Value) (size bytes : Nat) (ht : P.underlying t = some (.slice e)) (hi : P.info? e = some i) (hz : i.zero = some z)
    (hsize : i.size = size) (hby : i.bytes = bytes) (hzs : z.cells.size = size) (hsz : 0 < size)
    (v : Value) (n : Nat) (xs : List Value) (hs : a.eval s = v) (hown : w.ownsRow base e size v n xs)
    (ad : Addr) (m c : Nat) (news : List Value) (hx : a.eval x = .slice (some ad) m c) (hl : news.length = m * size) (hnews : ∀ j u, news[j]? = some u → w.cell? (ad.add j) = some u) (h1 : ∀ u ∈ news, u.oneCell' = true)
    (h63 : n + m ≤ maxLen) (hbytes : (n + m) * bytes ≤ 140737488355328) (hbase : base ≤ w.heap.size)
    (hK : ∀ v' w', w'.ownsRow base e size v' (n + m) (xs ++ news) → w.grownBy w' v.ownBlock → K (a.put o.dst v') w') :
    if Region.wanted o (yielded ops a.tmps) = true then Oper.wp P o a w K Q else E := by
  have hw : Region.wanted o (yielded ops a.tmps) = true := by simp [Region.wanted, hgd]
  rw [if_pos hw]
  obtain ⟨v', w', hr, h2, h3, h4, h5⟩ := run_append_own_at (P := P) w base t o.type e i z size bytes ht hi hz hsize hby hzs hsz v n xs hown ad m c news hl hnews h1 h63 hbytes hbase
  unfold Oper.wp execOp
  simp only [ho, resolve, invoke, builtin, Sem.run_bind, Sem.run_pure, Result.andThen_ok, List.map_toArray, List.map_cons, List.map_nil, hs, hx, hr]
  exact hK v' w' h2 h3
end Go.Proofs.Ytpikjahgnnejmaa

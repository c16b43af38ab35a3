/- tree.Prove. -/
import Derived.Test.YtpikjahgnnejmaaTrP
import Derived.Test.YtpikjahgnnejmaaAppS
import Derived.Test.YtpikjahgnnejmaaBit64
namespace Go.Proofs.Ytpikjahgnnejmaa
open Go.RowKit
set_option linter.unusedVariables false
set_option linter.unusedSimpArgs false
theorem Boxed.drew' {W : World} {B : Nat} {t : TypeId} {v : Value} (h : Boxed W B t v) : Boxed W.drew B t v := h
open Go.Maps in
theorem step_append_at {P : Program} {ops : Array Oper} {o : Oper} {a : Act} {w : World} {K : Act → World → Prop} {Q : Exit → Act → World → Prop} {E : Prop} (hgd : o.guard = none) (s x : Operand) (t : TypeId)
    (ho : o.op = .call { callee := .builtin .append, args := #[s, x], argTypes := #[t, t] })
    (base : Nat) (e : TypeId) (i : TypeInfo) (z : Value) (size bytes : Nat) (ht : P.underlying t = some (.slice e)) (hi : P.info? e = some i) (hz : i.zero = some z)
    (hsize : i.size = size) (hby : i.bytes = bytes) (hzs : z.cells.size = size) (hsz : 0 < size)
    (v : Value) (n : Nat) (xs : List Value) (hs : a.eval s = v) (hown : w.ownsRow base e size v n xs)
    (ad : Addr) (m c : Nat) (news : List Value) (hx : a.eval x = .slice (some ad) m c) (hl : news.length = m * size) (hnews : ∀ j u, news[j]? = some u → w.cell? (ad.add j) = some u) (h1 : ∀ u ∈ news, u.oneCell' = true)
    (h63 : n + m ≤ maxLen) (hbytes : (n + m) * bytes ≤ 140737488355328) (hbase : base ≤ w.heap.size)
    (hK : ∀ v' w', w'.ownsRow base e size v' (n + m) (xs ++ news) → w.grownBy w' v.ownBlock → (v'.ownBlock = v.ownBlock ∨ v'.ownBlock = some w.heap.size) → K (a.put o.dst v') w') :
    if Region.wanted o (yielded ops a.tmps) = true then Oper.wp P o a w K Q else E := by
  have hw : Region.wanted o (yielded ops a.tmps) = true := by simp [Region.wanted, hgd]
  rw [if_pos hw]
  obtain ⟨v', w', hr, h2, h3, h4, h5⟩ := run_append_own_at (P := P) w base t o.type e i z size bytes ht hi hz hsize hby hzs hsz v n xs hown ad m c news hl hnews h1 h63 hbytes hbase
  unfold Oper.wp execOp
  simp only [ho, resolve, invoke, builtin, Sem.run_bind, Sem.run_pure, Result.andThen_ok, List.map_toArray, List.map_cons, List.map_nil, hs, hx, hr]
  exact hK v' w' h2 h3 h5
/-- what Prove has when a row is shown to its visitor -/
structure PrI (w : World) (bi bl : Nat) (s : Nat × List Nat) (v : Value) (W : World) : Prop where
  bel : Below w.heap.size w W
  i : Boxed W bi 3 (.int .i64 s.1)
  l : Boxed W bl 44 v
  own : W.ownsRow (bl + 1) 23 1 v s.2.length (u32V s.2)
  lim : s.1 ≤ 64
theorem PrI.below {w W W' : World} {bi bl : Nat} {s : Nat × List Nat} {v : Value} (h : PrI w bi bl s v W) (h1 : w.heap.size ≤ W.heap.size) (hb : Below W.heap.size W W') : PrI w bi bl s v W' :=
  ⟨h.bel.trans (hb.mono h1), (hb.block _ h.i.lt).trans h.i, (hb.block _ h.l.lt).trans h.l, own_keep h.own hb, h.lim⟩
def PrJ (w : World) (bi bl : Nat) (s : Nat × List Nat) (ob : Option Nat) (W : World) : Prop := ∃ v, PrI w bi bl s v W ∧ v.ownBlock = ob
theorem own_block_lt {W : World} {base : Nat} {e : TypeId} {size : Nat} {v : Value} {k : Nat} {xs : List Value} (h : W.ownsRow base e size v k xs) {j : Nat} (hj : v.ownBlock = some j) : j < W.heap.size ∧ base ≤ j := ⟨(h.lt j hj).2, (h.lt j hj).1⟩
set_option maxRecDepth 20000 in
set_option maxHeartbeats 3200000 in
theorem prove_visit (w : World) (bi bl base : Nat) (hbi : w.heap.size ≤ bi) (hbl : bi < bl) (hbase : bl < base) (s : Nat × List Nat) (ob : Option Nat) (W : World) (g L cp : Nat) (xs : List Nat) (hcnt : s.2.length ≤ 64) (hJ : PrJ w bi bl s ob W) (hg : some g ≠ ob) (hgb : base ≤ g) (hgl : g < W.heap.size) (hr : RowU W g xs) (hL : xs.length = L) (hL2 : L ≤ 64) (hLc : L ≤ cp) (hx : ∀ x ∈ xs, x < 65536) :
    Calls Try.prog 41 #[.slice (some ⟨g, 0, none⟩) L cp, .pointer (some ⟨bi, 0, none⟩), .pointer (some ⟨bl, 0, none⟩)] W fun e w' => (∃ v, e = .returned v) ∧ ∃ ob', PrJ w bi bl (stpP s xs) ob' w' ∧ (ob' = ob ∨ ∃ k, ob' = some k ∧ W.heap.size ≤ k) ∧ W.heap.size ≤ w'.heap.size ∧ ∀ k, base ≤ k → k < W.heap.size → some k ≠ ob → w'.heap[k]? = W.heap[k]? := by
  obtain ⟨i0, hi, hz0, hz1, hz2⟩ := info_parts u32_info
  have hu : Try.prog.underlying 44 = some (.slice 23) := by kernel_rfl
  obtain ⟨v, hI, hob⟩ := hJ
  obtain ⟨i, acc⟩ := s
  have hlim : i ≤ 64 := hI.lim
  have ci := hI.i.cell
  have fi := hI.i.frozen
  have cl := hI.l.cell
  have fl := hI.l.frozen
  have hbl2 : bl < W.heap.size := hI.l.lt
  have hbi2 : bi < W.heap.size := hI.i.lt
  have ex := i64_xor_nat i 1 (by omega) (by omega)
  rw [show ((1 : Nat) : Int) = (1 : Int) from rfl] at ex
  have hxl : i ^^^ 1 < 128 := Nat.xor_lt_two_pow (n := 7) (by omega) (by omega)
  have m3 : (i : Int).tdiv 2 = ((i / 2 : Nat) : Int) := by rw [Int.tdiv_eq_ediv_of_nonneg (by omega)]; norm_cast
  have m4 : (i : Int) / 2 = ((i / 2 : Nat) : Int) := by norm_cast
  have HST : Hid (stpP (i, acc) xs = (i / 2, if (i ^^^ 1) < L then acc ++ [xs.getD (i ^^^ 1) 0] else acc)) := Lib.hid (by unfold stpP; rw [hL])
  obtain ⟨o, ho⟩ : ∃ o, i ^^^ 1 = o := ⟨_, rfl⟩
  rw [ho] at ex hxl HST
  obtain ⟨h, hh⟩ : ∃ h, i / 2 = h := ⟨_, rfl⟩
  rw [hh] at m3 m4 HST
  have hh2 : h ≤ 64 := by omega
  have HI := Lib.hid hI
  have HR := Lib.hid hr
  have HL := Lib.hid hL
  have HOB := Lib.hid hob
  clear hr hI ho hh hob hL
  by_cases hlt : o < L
  · obtain ⟨x, hxx⟩ : ∃ x, xs[o]? = some x := ⟨_, List.getElem?_eq_getElem (by rw [HL.out]; exact hlt)⟩
    have kx := HR.out o x hxx
    have HS2 : Hid (stpP (i, acc) xs = (h, acc ++ [x])) := Lib.hid (by rw [HST.out, if_pos hlt, List.getD_eq_getElem?_getD, hxx]; rfl)
    have hac : acc.length ≤ 64 := hcnt
    have how := HI.out.own
    clear hxx
    go_enter Try.func41, Try.ntmps41
    go_wp2_with fail
    refine wp_region_D (S := (fun W' : World => Below W.heap.size W W')) (fun j => j != 6 && j != 7) (by kernel_rfl) (Below.refl _ _).drew (fun hHeld => ?_)
    simp only [List.size_toArray, List.length_cons, List.length_nil, Nat.reduceAdd, Array.replicate_succ, Array.replicate_zero, List.push_toArray, List.append_toArray, List.nil_append, List.cons_append]
    refine WD_take (i := 0) (oi := _) (v := ?_) rfl (by kernel_rfl) (fun _ _ _ h => h) (Or.inl ⟨by rfl, ?_⟩) (by assumption) ?_
    rotate_left
    · (intro W hS; (try dsimp only at hS); have kk := (hS.cell (p := ⟨bl, 0, none⟩) hbl2).trans cl; clear hS; go_simp; with_reducible rfl)
    try simp only [Act.put, List.getElem_toArray, List.getElem_cons_succ, List.getElem_cons_zero, List.setIfInBounds_toArray, List.set_cons_zero, List.set_cons_succ]
    refine WD_free (i := 1) (oi := _) (v := ?_) rfl (by kernel_rfl) (fun _ _ _ h => h) (Or.inl ⟨by rfl, ?_⟩) ?_
    rotate_left
    · (intro W hS; (try dsimp only at hS); clear hS; go_simp; with_reducible rfl)
    try simp only [Act.put, List.getElem_toArray, List.getElem_cons_succ, List.getElem_cons_zero, List.setIfInBounds_toArray, List.set_cons_zero, List.set_cons_succ]
    refine WD_free (i := 2) (oi := _) (v := ?_) rfl (by kernel_rfl) (fun _ _ _ h => h) (Or.inl ⟨by rfl, ?_⟩) ?_
    rotate_left
    · (intro W hS; (try dsimp only at hS); clear hS; go_simp; with_reducible rfl)
    try simp only [Act.put, List.getElem_toArray, List.getElem_cons_succ, List.getElem_cons_zero, List.setIfInBounds_toArray, List.set_cons_zero, List.set_cons_succ]
    refine WD_free (i := 3) (oi := _) (v := ?_) rfl (by kernel_rfl) (fun _ _ _ h => h) (Or.inl ⟨by rfl, ?_⟩) ?_
    rotate_left
    · (intro W hS; (try dsimp only at hS); clear hS; go_simp; with_reducible rfl)
    try simp only [Act.put, List.getElem_toArray, List.getElem_cons_succ, List.getElem_cons_zero, List.setIfInBounds_toArray, List.set_cons_zero, List.set_cons_succ]
    refine WD_take (i := 4) (oi := _) (v := ?_) rfl (by kernel_rfl) (fun _ _ _ h => h) (Or.inl ⟨by rfl, ?_⟩) (by assumption) ?_
    rotate_left
    · (intro W hS; (try dsimp only at hS); have kk := (hS.cell (p := ⟨g, o, none⟩) hgl).trans kx; clear hS; go_simp; with_reducible rfl)
    try simp only [Act.put, List.getElem_toArray, List.getElem_cons_succ, List.getElem_cons_zero, List.setIfInBounds_toArray, List.set_cons_zero, List.set_cons_succ]
    refine WD_step (i := 5) (o := _) rfl (by kernel_rfl) (fun K hK => ?_)
    go_simp
    replace hHeld := hHeld.alloc hHeld.size (.cells #[.int .u32 (x : Int)] 23)
    refine hK.out _ _ (fun _ _ => hHeld) ?_
    clear hK K
    try simp only [Act.put, List.getElem_toArray, List.getElem_cons_succ, List.getElem_cons_zero, List.setIfInBounds_toArray, List.set_cons_zero, List.set_cons_succ]
    refine WD_step (i := 6) (o := _) rfl (by kernel_rfl) (fun K hK => ?_)
    refine step_append_at rfl _ _ 44 rfl (bl + 1) 23 i0 (.int .u32 0) 1 4 hu hi hz0 hz1 hz2 rfl (by decide) _ _ _ rfl (how.drew.alloc _) ⟨W.heap.size, 0, none⟩ 1 1 [.int .u32 (x : Int)] rfl rfl (cell_new1 W.drew _ _ rfl) (by simp [Value.oneCell']) (by unfold maxLen; omega) (by omega) (by simp; omega) ?_
    intro v' w2 hown2 hg2 hat2
    refine hK.out _ _ (fun h => by cases h) ?_
    clear hK K
    obtain ⟨g2, c2, rfl, hgs⟩ := own_shape hown2 (by omega)
    have hne2 : ∀ k, k ≤ bl → some k ≠ v.ownBlock := fun k hk e => by have := (own_block_lt how e.symm).2; omega
    have HL2 : Boxed w2 bl 44 v := (((Boxed.drew' HI.out.l)).alloc _).kept hg2 (hne2 _ (Nat.le_refl _))
    have HI2 : Boxed w2 bi 3 (.int .i64 i) := (((Boxed.drew' HI.out.i)).alloc _).kept hg2 (hne2 _ (by omega))
    have cl2 := HL2.cell
    have fl2 := HL2.frozen
    have ci2 := HI2.cell
    have fi2 := HI2.frozen
    try simp only [Act.put, List.getElem_toArray, List.getElem_cons_succ, List.getElem_cons_zero, List.setIfInBounds_toArray, List.set_cons_zero, List.set_cons_succ]
    refine WD_step (i := 7) (o := _) rfl (by kernel_rfl) (fun K hK => ?_)
    go_simp
    refine hK.out _ _ (fun h => by cases h) ?_
    clear hK K
    try simp only [Act.put, List.getElem_toArray, List.getElem_cons_succ, List.getElem_cons_zero, List.setIfInBounds_toArray, List.set_cons_zero, List.set_cons_succ]
    refine WD_done (by kernel_rfl) ?_ _
    go_wp2
    go_end0
    have hbel := (((HI.out.bel.drew.alloc (by have := HI.out.bel.size; simp; omega) (.cells #[.int .u32 (x : Int)] 23)).grown hg2 (by have := HI.out.bel.size; simp; omega) (fun j hj => by have := (own_block_lt how hj).2; omega)))
    have hsz : W.heap.size + 1 ≤ w2.heap.size := by have := hg2.size; simpa using this
    have hblk : ∀ k, k < W.heap.size → some k ≠ ob → w2.heap[k]? = W.heap[k]? := fun k hk he => by
      have h1 := hg2.block k (by simp; omega) (by show some k ≠ v.ownBlock; rw [HOB.out]; exact he)
      exact h1.trans (((Below.refl W.heap.size W).drew.alloc (by simp) (.cells #[.int .u32 (x : Int)] 23)).block k hk)
    have hsb : ∀ (b : Nat) (u : Value) (W' : World) (k : Nat), k ≠ b → (W'.setCell ⟨b, 0, none⟩ u).heap[k]? = W'.heap[k]? := fun b u W' k hk => Below.heap_setCell _ _ _ _ (by show k ≠ b; exact hk)
    refine ⟨⟨_, rfl⟩, some g2, ⟨.slice (some ⟨g2, 0, none⟩) (acc.length + 1) c2, ⟨(hbel.setCell (p := ⟨bl, 0, none⟩) (by show w.heap.size ≤ bl; omega) _).setCell (p := ⟨bi, 0, none⟩) hbi _, ?_, ?_, ?_, ?_⟩, rfl⟩, ?_, by simp; omega, fun k h1 h2 h3 => ?_⟩
    · rw [HS2.out]; exact (HI2.other (by omega) _).set _
    · exact (HL2.set _).other (by omega) _
    · rw [HS2.out]
      have e9 : u32V (acc ++ [x]) = u32V acc ++ [.int .u32 (x : Int)] := by simp [u32V]
      have e8 : (acc ++ [x]).length = acc.length + 1 := by simp
      show World.ownsRow _ _ _ _ _ (acc ++ [x]).length (u32V (acc ++ [x]))
      rw [e9, e8]
      exact ownsRow_set_other (ownsRow_set_other hown2 (a := ⟨bl, 0, none⟩) (by show bl < bl + 1; omega) _) (a := ⟨bi, 0, none⟩) (by show bi < bl + 1; omega) _
    · rw [HS2.out]; exact hh2
    · rcases hat2 with e | e
      · left
        have e' : some g2 = v.ownBlock := e
        rw [← HOB.out, ← e']
      · right
        refine ⟨g2, rfl, ?_⟩
        have : some g2 = some (W.drew.alloc (.cells #[.int .u32 (x : Int)] 23)).heap.size := e
        simp at this
        omega
    · rw [hsb bi _ _ k (by omega), hsb bl _ _ k (by omega)]
      exact hblk k h2 h3
  · have HS2 : Hid (stpP (i, acc) xs = (h, acc)) := Lib.hid (by rw [HST.out, if_neg hlt])
    go_enter Try.func41, Try.ntmps41
    go_wp2
    go_end0
    have hne : ∀ k, bl < k → (W.setCell ⟨bi, 0, none⟩ (.int .i64 h)).heap[k]? = W.heap[k]? := fun k hk => Below.heap_setCell _ _ _ _ (by show k ≠ bi; omega)
    refine ⟨⟨_, rfl⟩, ob, ⟨v, ⟨HI.out.bel.setCell (by exact hbi) _, by rw [HS2.out]; exact HI.out.i.set _, HI.out.l.other (by omega) _, ?_, by rw [HS2.out]; exact hh2⟩, HOB.out⟩, .inl rfl, by simp, fun k hk _ _ => hne k (by omega)⟩
    rw [HS2.out]
    exact ownsRow_set_other HI.out.own (a := ⟨bi, 0, none⟩) (by show bi < bl + 1; omega) _
end Go.Proofs.Ytpikjahgnnejmaa

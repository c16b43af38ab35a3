/- What a text asks: talk.asks, the reference's TextAsks. -/
import Derived.Test.YtgmkmlfppblpfaaTk4
import Derived.Test.YtgmkmlfppblpfaaTxt
import Derived.Test.YtgmkmlfppblpfaaRSum2
import Derived.Test.YtgmkmlfppblpfaaHold
import Derived.Maps.AppendAt
import Derived.Laws.OwnMore
namespace Go.Proofs.Ytgmkmlfppblpfaa
open Go.RowKit Go.Maps
set_option linter.unusedVariables false
set_option linter.unusedSimpArgs false
theorem step_app {P : Program} {ops : Array Oper} {o : Oper} {a : Act} {w : World} {K : Act → World → Prop} {Q : Exit → Act → World → Prop} {E : Prop} (hgd : o.guard = none) (s x : Operand) (t : TypeId)
    (ho : o.op = .call { callee := .builtin .append, args := #[s, x], argTypes := #[t, t] })
    (base : Nat) (e : TypeId) (i : TypeInfo) (z : Value) (size bytes : Nat) (ht : P.underlying t = some (.slice e)) (hi : P.info? e = some i) (hz : i.zero = some z)
    (hsize : i.size = size) (hby : i.bytes = bytes) (hzs : z.cells.size = size) (hsz : 0 < size)
    (v : Value) (n : Nat) (xs : List Value) (hs : a.eval s = v) (hown : w.ownsRow base e size v n xs)
    (ad : Addr) (m c : Nat) (news : List Value) (hx : a.eval x = .slice (some ad) m c) (hl : news.length = m * size) (hnews : ∀ j u, news[j]? = some u → w.cell? (ad.add j) = some u) (h1 : ∀ u ∈ news, u.oneCell' = true)
    (h63 : n + m ≤ maxLen) (hbytes : (n + m) * bytes ≤ 140737488355328) (hbase : base ≤ w.heap.size)
    (hK : ∀ v' w', w'.ownsRow base e size v' (n + m) (xs ++ news) → w.grownBy w' v.ownBlock → K (a.put o.dst v') w') :
    if Region.wanted o (yielded ops a.tmps) = true then Oper.wp P o a w K Q else E := by
  have hw : Region.wanted o (yielded ops a.tmps) = true := by simp [Region.wanted, hgd]
  rw [if_pos hw]
  obtain ⟨v', w', hr, h2, h3, h4, h5⟩ := run_append_own_at (P := P) w base t o.type e i z size bytes ht hi hz hsize hby hzs hsz v n xs hown ad m c news hl hnews h1 h63 hbytes hbase
  unfold Oper.wp execOp
  simp only [ho, resolve, invoke, builtin, Sem.run_bind, Sem.run_pure, Result.andThen_ok, List.map_toArray, List.map_cons, List.map_nil, hs, hx, hr]
  exact hK v' w' h2 h3
theorem step_app_none {P : Program} {ops : Array Oper} {o : Oper} {a : Act} {w : World} {K : Act → World → Prop} {Q : Exit → Act → World → Prop} {E : Prop} (hgd : o.guard = none) (s x : Operand) (t : TypeId)
    (ho : o.op = .call { callee := .builtin .append, args := #[s, x], argTypes := #[t, t] })
    (base : Nat) (e : TypeId) (i : TypeInfo) (size : Nat) (ht : P.underlying t = some (.slice e)) (hi : P.info? e = some i)
    (v : Value) (n : Nat) (xs : List Value) (hs : a.eval s = v) (hown : w.ownsRow base e size v n xs) (hx : a.eval x = .slice none 0 0)
    (hK : K (a.put o.dst v) w) :
    if Region.wanted o (yielded ops a.tmps) = true then Oper.wp P o a w K Q else E := by
  have hw : Region.wanted o (yielded ops a.tmps) = true := by simp [Region.wanted, hgd]
  rw [if_pos hw]
  have hr := run_append_owned_none (P := P) (w := w) base t o.type e i size ht hi v n xs hown
  unfold Oper.wp execOp
  simp only [ho, resolve, invoke, builtin, Sem.run_bind, Sem.run_pure, Result.andThen_ok, List.map_toArray, List.map_cons, List.map_nil, hs, hx, hr]
  exact hK
/-- what a text asks -/
def askN (F Y : Nat) (xs : List Nat) : Nat := sumN (litN F 4 ++ (litN Y 4 ++ xs))
theorem askN_lt (F Y : Nat) (xs : List Nat) : askN F Y xs < 65536 := fold_lt _ _ (by omega)
set_option maxRecDepth 100000 in
set_option maxHeartbeats 6400000 in
theorem talk_asks_some (P Q G H : Int) (F Y : Nat) (ad : Addr) (c : Nat) (xs : List Nat) (w : World) (q1 : 2 ≤ Q) (q2 : Q ≤ 1048576) (hF : F ≤ 1048576) (hY : Y ≤ 1048576) (h : RowB w (some ad) c xs) (hl : xs.length ≤ 8192) (hx : ∀ x ∈ xs, x < 256) :
    Calls Try.prog 48 #[.agg #[.int .i64 P, .int .i64 Q, .int .i64 G, .int .i64 H], .int .i64 Y, .int .i64 F, .slice (some ad) xs.length c] w fun e w' => e = .returned (.int .i64 ((askN F Y xs : Nat) % Q)) ∧ Below w.heap.size w w' := by
  have HAs : Hid (sumN (litN F 4 ++ (litN Y 4 ++ xs)) = askN F Y xs) := Lib.hid rfl
  have hlt := askN_lt F Y xs
  obtain ⟨A, hA⟩ : ∃ A, askN F Y xs = A := ⟨_, rfl⟩
  rw [hA] at HAs hlt ⊢
  clear hA
  have HB : Hid (∀ x ∈ litN F 4 ++ (litN Y 4 ++ xs), x < 256) := Lib.hid fun x hm => by
    rcases List.mem_append.1 hm with h | h
    · exact litN_lt _ _ x h
    · rcases List.mem_append.1 h with h | h
      · exact litN_lt _ _ x h
      · exact hx x h
  have HTx : Hid (byV (txtN [F, Y]) = byV (litN F 4 ++ litN Y 4)) := Lib.hid (by simp [txtN])
  obtain ⟨L, hL⟩ : ∃ L, L = xs.length := ⟨_, rfl⟩
  have HL := Lib.hid hL
  rw [← hL] at hl ⊢
  have HLen : Hid ((litN F 4 ++ (litN Y 4 ++ xs)).length = 8 + L) := Lib.hid (by simp [litN_len, ← hL]; omega)
  have HCat : Hid (byV (litN F 4 ++ (litN Y 4 ++ xs)) = byV (litN F 4 ++ litN Y 4) ++ byV xs) := Lib.hid (by rw [← byV_append, List.append_assoc])
  obtain ⟨i0, hi, hz0, hz1, hz2⟩ := info_parts byte_info
  have hu : Try.prog.underlying 51 = some (.slice 5) := by kernel_rfl
  have f3 : (Q == 0) = false := by simp; omega
  have f4 : ¬ Q = 0 := by omega
  have f5 : wrap64 (A : Int) = A := by unfold wrap64; omega
  have f6 : (A : Int).tmod Q = (A : Int) % Q := Int.tmod_eq_emod_of_nonneg (by omega)
  have f7 : IntKind.i64.wrap (A : Int) = A := IntWalk.i64_in _ (by omega)
  have HR := Lib.hid h
  clear h hL hx
  have ux : Try.prog.underlying 67 = some (.array 2 2) := by kernel_rfl
  have ix0 : ∀ W : World, (Instr.index 67 (.agg #[.int .i64 F, .int .i64 Y]) (.int .i64 0)).run Try.prog W = .ok (.int .i64 F) W := fun W => by
    simp [Instr.index, run_underlying ux, asIntOf, go_sem]
  have ix1 : ∀ W : World, (Instr.index 67 (.agg #[.int .i64 F, .int .i64 Y]) (.int .i64 1)).run Try.prog W = .ok (.int .i64 Y) W := fun W => by
    simp [Instr.index, run_underlying ux, asIntOf, go_sem]
  go_enter Try.func48, Try.ntmps48
  go_wp2_with fail
  obtain ⟨w0, hw0⟩ : ∃ W, W = w.alloc (.cells #[.int .i64 P, .int .i64 Q, .int .i64 G, .int .i64 H] 23) := ⟨_, rfl⟩
  have k1 : w0.cell? ⟨w.heap.size, 1, none⟩ = some (.int .i64 Q) := by rw [hw0]; simp [go_sem]
  have hbw : Below w.heap.size w w0 := by rw [hw0]; exact (Below.refl _ _).alloc (Nat.le_refl _) _
  have hlt0 : w.heap.size < w0.heap.size := by rw [hw0]; simp
  rw [← hw0]
  clear hw0
  go_wp2
  go_loopw [9, 15] (fun v i wr => ∃ I : Nat, i = .int .i64 I ∧ I ≤ 2 ∧ Below w0.heap.size w0 wr ∧ wr.ownsRow w0.heap.size 5 1 v (4 * I) (byV (txtN ([F, Y].take I)))) (fun _ i _ => 2 - (intOf i).toNat)
  case atStart => exact ⟨0, rfl, by omega, Below.refl _ _, World.ownsRow_nil _ _ _ _⟩
  case round =>
    obtain ⟨I, rfl, hI, hb, hr⟩ := hrel
    have zr := hb.size
    have hc : I = 0 ∨ I = 1 ∨ I = 2 := by omega
    rcases hc with rfl | rfl | rfl
    · go_wp2_with fail
      refine (hash_Little F 4 _ (by omega) (by omega)).mono ?_
      rintro e w1 ⟨u, rfl, hb1, hr1⟩
      have hlen := litN_len 4 F
      obtain ⟨a2, c2', rfl, h2, ha⟩ : ∃ a c, u = .slice a (litN F 4).length c ∧ RowB w1 a c (litN F 4) ∧ ∀ ad, a = some ad → ∃ g, ad = ⟨g, 0, none⟩ := own_rowB (by rw [hlen]; exact hr1)
      rw [hlen]
      rcases a2 with _ | a2
      · have := (h2.1 rfl).1
        rw [this] at hlen
        cases hlen
      · have hown1 := own_below hr hb1
        have hcell := h2.2 a2 rfl
        clear hr hr1 ha h2
        go_wp2_with (first
          | (at_builtin; refine wpList_append_own _ rfl _ _ 51 rfl w0.heap.size 5 i0 (.int .u8 0) 1 1 hu hi hz0 hz1 hz2 rfl (by decide) _ _ _ rfl hown1 a2 4 c2' (byV (litN F 4)) rfl (by rw [byV_len, hlen]) hcell (byV_one _) (by unfold maxLen; omega) (by omega) (by have := hb1.size; omega) ?_; intro v' w2 hown' hg2 hnil2))
        have hbb : Below w0.heap.size w0 w2 := (below_two hb hb1).grown hg2 (by have := hb1.size; omega) (fun j hj => (hown1.lt j hj).1)
        go_round
        case rel =>
          refine ⟨1, by go_num, by omega, hbb, ?_⟩
          have := hown'
          simp [txtN, byV_append] at this ⊢
          exact this
        case measure => simp [intOf]
    · go_wp2_with fail
      refine (hash_Little Y 4 _ (by omega) (by omega)).mono ?_
      rintro e w1 ⟨u, rfl, hb1, hr1⟩
      have hlen := litN_len 4 Y
      obtain ⟨a2, c2', rfl, h2, ha⟩ : ∃ a c, u = .slice a (litN Y 4).length c ∧ RowB w1 a c (litN Y 4) ∧ ∀ ad, a = some ad → ∃ g, ad = ⟨g, 0, none⟩ := own_rowB (by rw [hlen]; exact hr1)
      rw [hlen]
      rcases a2 with _ | a2
      · have := (h2.1 rfl).1
        rw [this] at hlen
        cases hlen
      · have hown1 := own_below hr hb1
        have hcell := h2.2 a2 rfl
        clear hr hr1 ha h2
        go_wp2_with (first
          | (at_builtin; refine wpList_append_own _ rfl _ _ 51 rfl w0.heap.size 5 i0 (.int .u8 0) 1 1 hu hi hz0 hz1 hz2 rfl (by decide) _ _ _ rfl hown1 a2 4 c2' (byV (litN Y 4)) rfl (by rw [byV_len, hlen]) hcell (byV_one _) (by unfold maxLen; omega) (by omega) (by have := hb1.size; omega) ?_; intro v' w2 hown' hg2 hnil2))
        have hbb : Below w0.heap.size w0 w2 := (below_two hb hb1).grown hg2 (by have := hb1.size; omega) (fun j hj => (hown1.lt j hj).1)
        go_round
        case rel =>
          refine ⟨2, by go_num, by omega, hbb, ?_⟩
          have := hown'
          simp [txtN, byV_append] at this ⊢
          exact this
        case measure => simp [intOf]
    · have hr' : wr.ownsRow w0.heap.size 5 1 u9 8 (byV (litN F 4 ++ litN Y 4)) := by have := hr; simpa [txtN] using this
      replace hr := hr'
      clear hr'
      go_wp2_with fail
      have hcell : ∀ (j : Nat) (u : Value), (byV xs)[j]? = some u → wr.drew.cell? (ad.add j) = some u := fun j u hj => ((HR.out.below hbw (Nat.le_refl _)).below hb (Nat.le_refl _)).2 ad rfl j u hj
      refine wp_region_D (S := (fun W : World => Below w0.heap.size w0 W)) (fun _ => true) (by kernel_rfl) hb.drew (fun hHeld => ?_)
      simp only [List.size_toArray, List.length_cons, List.length_nil, Nat.reduceAdd, Array.replicate_succ, Array.replicate_zero, List.push_toArray, List.append_toArray, List.nil_append, List.cons_append]
      refine WD_free (i := 0) (oi := _) (v := ?_) rfl (by kernel_rfl) (fun _ _ _ h => h) (Or.inl ⟨by rfl, ?_⟩) ?_
      rotate_left
      · (intro W hS; (try dsimp only at hS); clear hS; go_simp; with_reducible rfl)
      try simp only [Act.put, List.getElem_toArray, List.getElem_cons_succ, List.getElem_cons_zero, List.setIfInBounds_toArray, List.set_cons_zero, List.set_cons_succ]
      refine WD_free (i := 1) (oi := _) (v := ?_) rfl (by kernel_rfl) (fun _ _ _ h => h) (Or.inl ⟨by rfl, ?_⟩) ?_
      rotate_left
      · (intro W hS; (try dsimp only at hS); clear hS; go_simp; with_reducible rfl)
      try simp only [Act.put, List.getElem_toArray, List.getElem_cons_succ, List.getElem_cons_zero, List.setIfInBounds_toArray, List.set_cons_zero, List.set_cons_succ]
      refine WD_free (i := 5) (oi := _) (v := ?_) rfl (by kernel_rfl) (fun _ _ _ h => h) (Or.inl ⟨by rfl, ?_⟩) ?_
      rotate_left
      · (intro W hS; (try dsimp only at hS); clear hS; go_simp; with_reducible rfl)
      try simp only [Act.put, List.getElem_toArray, List.getElem_cons_succ, List.getElem_cons_zero, List.setIfInBounds_toArray, List.set_cons_zero, List.set_cons_succ]
      refine WD_take (i := 6) (oi := _) (v := ?_) rfl (by kernel_rfl) (fun _ _ _ h => h) (Or.inl ⟨by rfl, ?_⟩) (by assumption) ?_
      rotate_left
      · (intro W hS; (try dsimp only at hS); have kk := (hS.cell (p := ⟨w.heap.size, 1, none⟩) hlt0).trans k1; clear hS; go_simp; with_reducible rfl)
      try simp only [Act.put, List.getElem_toArray, List.getElem_cons_succ, List.getElem_cons_zero, List.setIfInBounds_toArray, List.set_cons_zero, List.set_cons_succ]
      refine WD_step (i := 2) (o := _) rfl (by kernel_rfl) (fun K hK => ?_)
      refine step_app rfl (.tmp 23) (.tmp 24) 51 rfl w0.heap.size 5 i0 (.int .u8 0) 1 1 hu hi hz0 hz1 hz2 rfl (by decide) _ _ _ rfl hr.drew ad L c (byV xs) rfl (by rw [byV_len, Nat.mul_one]; exact HL.out.symm) (fun j u hj => hcell j u hj) (byV_one _) (by unfold maxLen; omega) (by omega) (by have := hb.size; simp; omega) ?_
      intro v' w5 hown' hg2
      replace hHeld := hHeld.grown hg2 hHeld.size (fun j hj => (hr.drew.lt j hj).1)
      refine hK.out _ _ (fun _ _ => hHeld) ?_
      clear hK K
      try simp only [Act.put, List.getElem_toArray, List.getElem_cons_succ, List.getElem_cons_zero, List.setIfInBounds_toArray, List.set_cons_zero, List.set_cons_succ]
      obtain ⟨a2, c2, rfl, h2, _⟩ : ∃ a c, v' = .slice a (litN F 4 ++ (litN Y 4 ++ xs)).length c ∧ RowB w5 a c (litN F 4 ++ (litN Y 4 ++ xs)) ∧ ∀ ad, a = some ad → ∃ g, ad = ⟨g, 0, none⟩ := own_rowB (by rw [HLen.out, HCat.out]; exact hown')
      have HO := Lib.hid (hash_Of a2 c2 _ w5 h2 (by rw [HLen.out]; omega) HB.out)
      rw [HLen.out, HAs.out] at HO
      rw [HLen.out]
      clear h2 hown'
      refine WD_step (i := 3) (o := _) rfl (by kernel_rfl) (fun K hK => ?_)
      go_simp
      refine HO.out.mono ?_
      rintro e w6 ⟨rfl, hb6⟩
      go_wp2_with fail
      replace hHeld := below_two hHeld hb6
      refine hK.out _ _ (fun _ _ => hHeld) ?_
      clear hK K
      try simp only [Act.put, List.getElem_toArray, List.getElem_cons_succ, List.getElem_cons_zero, List.setIfInBounds_toArray, List.set_cons_zero, List.set_cons_succ]
      refine WD_free (i := 4) (oi := _) (v := ?_) rfl (by kernel_rfl) (fun _ _ _ h => h) (Or.inl ⟨by rfl, ?_⟩) ?_
      rotate_left
      · (intro W hS; (try dsimp only at hS); clear hS; go_simp; with_reducible rfl)
      try simp only [Act.put, List.getElem_toArray, List.getElem_cons_succ, List.getElem_cons_zero, List.setIfInBounds_toArray, List.set_cons_zero, List.set_cons_succ]
      refine WD_free (i := 7) (oi := _) (v := ?_) rfl (by kernel_rfl) (fun _ _ _ h => h) (Or.inl ⟨by rfl, ?_⟩) ?_
      rotate_left
      · (intro W hS; (try dsimp only at hS); clear hS; go_simp; with_reducible rfl)
      try simp only [Act.put, List.getElem_toArray, List.getElem_cons_succ, List.getElem_cons_zero, List.setIfInBounds_toArray, List.set_cons_zero, List.set_cons_succ]
      refine WD_free (i := 8) (oi := _) (v := ?_) rfl (by kernel_rfl) (fun _ _ _ h => h) (Or.inl ⟨by rfl, ?_⟩) ?_
      rotate_left
      · (intro W hS; (try dsimp only at hS); clear hS; go_simp; with_reducible rfl)
      try simp only [Act.put, List.getElem_toArray, List.getElem_cons_succ, List.getElem_cons_zero, List.setIfInBounds_toArray, List.set_cons_zero, List.set_cons_succ]
      refine WD_done (by kernel_rfl) ?_ _
      try simp only [f5, f7]
      go_wp2
      go_ret
      exact ⟨rfl, below_two hbw hHeld⟩
set_option maxRecDepth 100000 in
set_option maxHeartbeats 6400000 in
theorem ref_TextAsks_some (P Q G H : Int) (F Y : Nat) (ad : Addr) (c : Nat) (xs : List Nat) (w : World) (q1 : 2 ≤ Q) (q2 : Q ≤ 1048576) (hF : F ≤ 1048576) (hY : Y ≤ 1048576) (h : RowB w (some ad) c xs) (hl : xs.length ≤ 8192) (hx : ∀ x ∈ xs, x < 256) :
    Calls Try.prog 31 #[.agg #[.int .i64 P, .int .i64 Q, .int .i64 G, .int .i64 H], .int .i64 Y, .int .i64 F, .slice (some ad) xs.length c] w fun e w' => e = .returned (.int .i64 ((askN F Y xs : Nat) % Q)) ∧ Below w.heap.size w w' := by
  have HAs : Hid (sumN (litN F 4 ++ (litN Y 4 ++ xs)) = askN F Y xs) := Lib.hid rfl
  have hlt := askN_lt F Y xs
  obtain ⟨A, hA⟩ : ∃ A, askN F Y xs = A := ⟨_, rfl⟩
  rw [hA] at HAs hlt ⊢
  clear hA
  have HB : Hid (∀ x ∈ litN F 4 ++ (litN Y 4 ++ xs), x < 256) := Lib.hid fun x hm => by
    rcases List.mem_append.1 hm with h | h
    · exact litN_lt _ _ x h
    · rcases List.mem_append.1 h with h | h
      · exact litN_lt _ _ x h
      · exact hx x h
  have HTx : Hid (byV (txtN [F, Y]) = byV (litN F 4 ++ litN Y 4)) := Lib.hid (by simp [txtN])
  obtain ⟨L, hL⟩ : ∃ L, L = xs.length := ⟨_, rfl⟩
  have HL := Lib.hid hL
  rw [← hL] at hl ⊢
  have HLen : Hid ((litN F 4 ++ (litN Y 4 ++ xs)).length = 8 + L) := Lib.hid (by simp [litN_len, ← hL]; omega)
  have HCat : Hid (byV (litN F 4 ++ (litN Y 4 ++ xs)) = byV (litN F 4 ++ litN Y 4) ++ byV xs) := Lib.hid (by rw [← byV_append, List.append_assoc])
  obtain ⟨i0, hi, hz0, hz1, hz2⟩ := info_parts byte_info
  have hu : Try.prog.underlying 51 = some (.slice 5) := by kernel_rfl
  have f3 : (Q == 0) = false := by simp; omega
  have f4 : ¬ Q = 0 := by omega
  have f5 : wrap64 (A : Int) = A := by unfold wrap64; omega
  have f6 : (A : Int).tmod Q = (A : Int) % Q := Int.tmod_eq_emod_of_nonneg (by omega)
  have f7 : IntKind.i64.wrap (A : Int) = A := IntWalk.i64_in _ (by omega)
  have HR := Lib.hid h
  clear h hL hx
  go_enter Try.func31, Try.ntmps31
  go_wp2_with fail
  obtain ⟨w0, hw0⟩ : ∃ W, W = w.alloc (.cells #[.int .i64 P, .int .i64 Q, .int .i64 G, .int .i64 H] 23) := ⟨_, rfl⟩
  have k1 : w0.cell? ⟨w.heap.size, 1, none⟩ = some (.int .i64 Q) := by rw [hw0]; simp [go_sem]
  have hbw : Below w.heap.size w w0 := by rw [hw0]; exact (Below.refl _ _).alloc (Nat.le_refl _) _
  have hlt0 : w.heap.size < w0.heap.size := by rw [hw0]; simp
  rw [← hw0]
  clear hw0
  go_wp2_with fail
  refine (ref_little F 4 _ (by omega) (by omega)).mono ?_
  rintro e w1 ⟨u1, rfl, hb1, hr1⟩
  go_wp2_with fail
  refine (ref_little Y 4 _ (by omega) (by omega)).mono ?_
  rintro e w2 ⟨u2, rfl, hb2, hr2⟩
  have hlen := litN_len 4 Y
  obtain ⟨a2, c2', rfl, h2, ha⟩ : ∃ a c, u2 = .slice a (litN Y 4).length c ∧ RowB w2 a c (litN Y 4) ∧ ∀ ad, a = some ad → ∃ g, ad = ⟨g, 0, none⟩ := own_rowB (by rw [hlen]; exact hr2)
  rw [hlen]
  rcases a2 with _ | a2
  · have := (h2.1 rfl).1
    rw [this] at hlen
    cases hlen
  · have hown1 := own_below hr1 hb2
    have hcell := h2.2 a2 rfl
    have hb02 := below_two hb1 hb2
    clear hr1 hr2 ha h2
    go_wp2_with (first
      | (at_builtin; refine wpList_append_own _ rfl _ _ 51 rfl w0.heap.size 5 i0 (.int .u8 0) 1 1 hu hi hz0 hz1 hz2 rfl (by decide) _ _ _ rfl hown1 a2 4 c2' (byV (litN Y 4)) rfl (by rw [byV_len, hlen]) hcell (byV_one _) (by unfold maxLen; omega) (by omega) (by have := hb02.size; omega) ?_; intro v wr hown' hg2 hnil2)
      | fail)
    have hb : Below w0.heap.size w0 wr := hb02.grown hg2 hb02.size (fun j hj => (hown1.lt j hj).1)
    have hr : wr.ownsRow w0.heap.size 5 1 v 8 (byV (litN F 4 ++ litN Y 4)) := by rw [byV_append]; exact hown'
    clear hown' hg2 hnil2 hown1 hcell hb1 hb2 hb02
    have hcell : ∀ (j : Nat) (u : Value), (byV xs)[j]? = some u → wr.drew.cell? (ad.add j) = some u := fun j u hj => ((HR.out.below hbw (Nat.le_refl _)).below hb (Nat.le_refl _)).2 ad rfl j u hj
    refine wp_region_D (S := (fun W : World => Below w0.heap.size w0 W)) (fun _ => true) (by kernel_rfl) hb.drew (fun hHeld => ?_)
    simp only [List.size_toArray, List.length_cons, List.length_nil, Nat.reduceAdd, Array.replicate_succ, Array.replicate_zero, List.push_toArray, List.append_toArray, List.nil_append, List.cons_append]
    refine WD_free (i := 0) (oi := _) (v := ?_) rfl (by kernel_rfl) (fun _ _ _ h => h) (Or.inl ⟨by rfl, ?_⟩) ?_
    rotate_left
    · (intro W hS; (try dsimp only at hS); clear hS; go_simp; with_reducible rfl)
    try simp only [Act.put, List.getElem_toArray, List.getElem_cons_succ, List.getElem_cons_zero, List.setIfInBounds_toArray, List.set_cons_zero, List.set_cons_succ]
    refine WD_free (i := 1) (oi := _) (v := ?_) rfl (by kernel_rfl) (fun _ _ _ h => h) (Or.inl ⟨by rfl, ?_⟩) ?_
    rotate_left
    · (intro W hS; (try dsimp only at hS); clear hS; go_simp; with_reducible rfl)
    try simp only [Act.put, List.getElem_toArray, List.getElem_cons_succ, List.getElem_cons_zero, List.setIfInBounds_toArray, List.set_cons_zero, List.set_cons_succ]
    refine WD_free (i := 4) (oi := _) (v := ?_) rfl (by kernel_rfl) (fun _ _ _ h => h) (Or.inl ⟨by rfl, ?_⟩) ?_
    rotate_left
    · (intro W hS; (try dsimp only at hS); clear hS; go_simp; with_reducible rfl)
    try simp only [Act.put, List.getElem_toArray, List.getElem_cons_succ, List.getElem_cons_zero, List.setIfInBounds_toArray, List.set_cons_zero, List.set_cons_succ]
    refine WD_take (i := 5) (oi := _) (v := ?_) rfl (by kernel_rfl) (fun _ _ _ h => h) (Or.inl ⟨by rfl, ?_⟩) (by assumption) ?_
    rotate_left
    · (intro W hS; (try dsimp only at hS); have kk := (hS.cell (p := ⟨w.heap.size, 1, none⟩) hlt0).trans k1; clear hS; go_simp; with_reducible rfl)
    try simp only [Act.put, List.getElem_toArray, List.getElem_cons_succ, List.getElem_cons_zero, List.setIfInBounds_toArray, List.set_cons_zero, List.set_cons_succ]
    refine WD_step (i := 2) (o := _) rfl (by kernel_rfl) (fun K hK => ?_)
    refine step_app rfl (.tmp 15) (.tmp 16) 51 rfl w0.heap.size 5 i0 (.int .u8 0) 1 1 hu hi hz0 hz1 hz2 rfl (by decide) _ _ _ rfl hr.drew ad L c (byV xs) rfl (by rw [byV_len, Nat.mul_one]; exact HL.out.symm) (fun j u hj => hcell j u hj) (byV_one _) (by unfold maxLen; omega) (by omega) (by have := hb.size; simp; omega) ?_
    intro v' w5 hown' hg2
    replace hHeld := hHeld.grown hg2 hHeld.size (fun j hj => (hr.drew.lt j hj).1)
    refine hK.out _ _ (fun _ _ => hHeld) ?_
    clear hK K
    try simp only [Act.put, List.getElem_toArray, List.getElem_cons_succ, List.getElem_cons_zero, List.setIfInBounds_toArray, List.set_cons_zero, List.set_cons_succ]
    obtain ⟨a2, c2, rfl, h2, _⟩ : ∃ a c, v' = .slice a (litN F 4 ++ (litN Y 4 ++ xs)).length c ∧ RowB w5 a c (litN F 4 ++ (litN Y 4 ++ xs)) ∧ ∀ ad, a = some ad → ∃ g, ad = ⟨g, 0, none⟩ := own_rowB (by rw [HLen.out, HCat.out]; exact hown')
    rcases a2 with _ | a2
    · have := congrArg List.length (h2.1 rfl).1; rw [HLen.out] at this; simp at this
    have HO := Lib.hid (ref_Sum a2 c2 _ w5 h2 (by rw [HLen.out]; omega) (by rw [HLen.out]; omega) HB.out)
    rw [HLen.out, HAs.out] at HO
    rw [HLen.out]
    clear h2 hown'
    refine WD_step (i := 3) (o := _) rfl (by kernel_rfl) (fun K hK => ?_)
    go_simp
    refine HO.out.mono ?_
    rintro e w6 ⟨rfl, hb6⟩
    go_wp2_with fail
    replace hHeld := below_two hHeld hb6
    refine hK.out _ _ (fun _ _ => hHeld) ?_
    clear hK K
    try simp only [Act.put, List.getElem_toArray, List.getElem_cons_succ, List.getElem_cons_zero, List.setIfInBounds_toArray, List.set_cons_zero, List.set_cons_succ]
    refine WD_free (i := 6) (oi := _) (v := ?_) rfl (by kernel_rfl) (fun _ _ _ h => h) (Or.inl ⟨by rfl, ?_⟩) ?_
    rotate_left
    · (intro W hS; (try dsimp only at hS); clear hS; go_simp; with_reducible rfl)
    try simp only [Act.put, List.getElem_toArray, List.getElem_cons_succ, List.getElem_cons_zero, List.setIfInBounds_toArray, List.set_cons_zero, List.set_cons_succ]
    refine WD_free (i := 7) (oi := _) (v := ?_) rfl (by kernel_rfl) (fun _ _ _ h => h) (Or.inl ⟨by rfl, ?_⟩) ?_
    rotate_left
    · (intro W hS; (try dsimp only at hS); clear hS; go_simp; with_reducible rfl)
    try simp only [Act.put, List.getElem_toArray, List.getElem_cons_succ, List.getElem_cons_zero, List.setIfInBounds_toArray, List.set_cons_zero, List.set_cons_succ]
    refine WD_done (by kernel_rfl) ?_ _
    try simp only [f5, f7]
    go_wp2
    go_ret
    exact ⟨rfl, below_two hbw hHeld⟩
set_option maxRecDepth 100000 in
set_option maxHeartbeats 6400000 in
theorem talk_asks_none (P Q G H : Int) (F Y : Nat)  (w : World) (q1 : 2 ≤ Q) (q2 : Q ≤ 1048576) (hF : F ≤ 1048576) (hY : Y ≤ 1048576)  :
    Calls Try.prog 48 #[.agg #[.int .i64 P, .int .i64 Q, .int .i64 G, .int .i64 H], .int .i64 Y, .int .i64 F, .slice none 0 0] w fun e w' => e = .returned (.int .i64 ((askN F Y [] : Nat) % Q)) ∧ Below w.heap.size w w' := by
  obtain ⟨xs, hxs⟩ : ∃ xs : List Nat, [] = xs := ⟨_, rfl⟩
  have hx : ∀ x ∈ xs, x < 256 := by rw [← hxs]; simp
  have hl : xs.length ≤ 8192 := by rw [← hxs]; simp
  have hL0 : xs.length = 0 := by rw [← hxs]; rfl
  rw [hxs]
  have HAs : Hid (sumN (litN F 4 ++ (litN Y 4 ++ xs)) = askN F Y xs) := Lib.hid rfl
  have hlt := askN_lt F Y xs
  obtain ⟨A, hA⟩ : ∃ A, askN F Y xs = A := ⟨_, rfl⟩
  rw [hA] at HAs hlt ⊢
  clear hA
  have HB : Hid (∀ x ∈ litN F 4 ++ (litN Y 4 ++ xs), x < 256) := Lib.hid fun x hm => by
    rcases List.mem_append.1 hm with h | h
    · exact litN_lt _ _ x h
    · rcases List.mem_append.1 h with h | h
      · exact litN_lt _ _ x h
      · exact hx x h
  have HTx : Hid (byV (txtN [F, Y]) = byV (litN F 4 ++ litN Y 4)) := Lib.hid (by simp [txtN])
  obtain ⟨L, hL⟩ : ∃ L, L = xs.length := ⟨_, rfl⟩
  have HL := Lib.hid hL
  rw [← hL] at hl hL0
  have HLen : Hid ((litN F 4 ++ (litN Y 4 ++ xs)).length = 8 + L) := Lib.hid (by simp [litN_len, ← hL]; omega)
  subst hL0
  have HCat : Hid (byV (litN F 4 ++ (litN Y 4 ++ xs)) = byV (litN F 4 ++ litN Y 4)) := Lib.hid (by rw [← hxs, List.append_nil])
  obtain ⟨i0, hi, hz0, hz1, hz2⟩ := info_parts byte_info
  have hu : Try.prog.underlying 51 = some (.slice 5) := by kernel_rfl
  have f3 : (Q == 0) = false := by simp; omega
  have f4 : ¬ Q = 0 := by omega
  have f5 : wrap64 (A : Int) = A := by unfold wrap64; omega
  have f6 : (A : Int).tmod Q = (A : Int) % Q := Int.tmod_eq_emod_of_nonneg (by omega)
  have f7 : IntKind.i64.wrap (A : Int) = A := IntWalk.i64_in _ (by omega)
  clear hL hx hxs
  have ux : Try.prog.underlying 67 = some (.array 2 2) := by kernel_rfl
  have ix0 : ∀ W : World, (Instr.index 67 (.agg #[.int .i64 F, .int .i64 Y]) (.int .i64 0)).run Try.prog W = .ok (.int .i64 F) W := fun W => by
    simp [Instr.index, run_underlying ux, asIntOf, go_sem]
  have ix1 : ∀ W : World, (Instr.index 67 (.agg #[.int .i64 F, .int .i64 Y]) (.int .i64 1)).run Try.prog W = .ok (.int .i64 Y) W := fun W => by
    simp [Instr.index, run_underlying ux, asIntOf, go_sem]
  go_enter Try.func48, Try.ntmps48
  go_wp2_with fail
  obtain ⟨w0, hw0⟩ : ∃ W, W = w.alloc (.cells #[.int .i64 P, .int .i64 Q, .int .i64 G, .int .i64 H] 23) := ⟨_, rfl⟩
  have k1 : w0.cell? ⟨w.heap.size, 1, none⟩ = some (.int .i64 Q) := by rw [hw0]; simp [go_sem]
  have hbw : Below w.heap.size w w0 := by rw [hw0]; exact (Below.refl _ _).alloc (Nat.le_refl _) _
  have hlt0 : w.heap.size < w0.heap.size := by rw [hw0]; simp
  rw [← hw0]
  clear hw0
  go_wp2
  go_loopw [9, 15] (fun v i wr => ∃ I : Nat, i = .int .i64 I ∧ I ≤ 2 ∧ Below w0.heap.size w0 wr ∧ wr.ownsRow w0.heap.size 5 1 v (4 * I) (byV (txtN ([F, Y].take I)))) (fun _ i _ => 2 - (intOf i).toNat)
  case atStart => exact ⟨0, rfl, by omega, Below.refl _ _, World.ownsRow_nil _ _ _ _⟩
  case round =>
    obtain ⟨I, rfl, hI, hb, hr⟩ := hrel
    have zr := hb.size
    have hc : I = 0 ∨ I = 1 ∨ I = 2 := by omega
    rcases hc with rfl | rfl | rfl
    · go_wp2_with fail
      refine (hash_Little F 4 _ (by omega) (by omega)).mono ?_
      rintro e w1 ⟨u, rfl, hb1, hr1⟩
      have hlen := litN_len 4 F
      obtain ⟨a2, c2', rfl, h2, ha⟩ : ∃ a c, u = .slice a (litN F 4).length c ∧ RowB w1 a c (litN F 4) ∧ ∀ ad, a = some ad → ∃ g, ad = ⟨g, 0, none⟩ := own_rowB (by rw [hlen]; exact hr1)
      rw [hlen]
      rcases a2 with _ | a2
      · have := (h2.1 rfl).1
        rw [this] at hlen
        cases hlen
      · have hown1 := own_below hr hb1
        have hcell := h2.2 a2 rfl
        clear hr hr1 ha h2
        go_wp2_with (first
          | (at_builtin; refine wpList_append_own _ rfl _ _ 51 rfl w0.heap.size 5 i0 (.int .u8 0) 1 1 hu hi hz0 hz1 hz2 rfl (by decide) _ _ _ rfl hown1 a2 4 c2' (byV (litN F 4)) rfl (by rw [byV_len, hlen]) hcell (byV_one _) (by unfold maxLen; omega) (by omega) (by have := hb1.size; omega) ?_; intro v' w2 hown' hg2 hnil2))
        have hbb : Below w0.heap.size w0 w2 := (below_two hb hb1).grown hg2 (by have := hb1.size; omega) (fun j hj => (hown1.lt j hj).1)
        go_round
        case rel =>
          refine ⟨1, by go_num, by omega, hbb, ?_⟩
          have := hown'
          simp [txtN, byV_append] at this ⊢
          exact this
        case measure => simp [intOf]
    · go_wp2_with fail
      refine (hash_Little Y 4 _ (by omega) (by omega)).mono ?_
      rintro e w1 ⟨u, rfl, hb1, hr1⟩
      have hlen := litN_len 4 Y
      obtain ⟨a2, c2', rfl, h2, ha⟩ : ∃ a c, u = .slice a (litN Y 4).length c ∧ RowB w1 a c (litN Y 4) ∧ ∀ ad, a = some ad → ∃ g, ad = ⟨g, 0, none⟩ := own_rowB (by rw [hlen]; exact hr1)
      rw [hlen]
      rcases a2 with _ | a2
      · have := (h2.1 rfl).1
        rw [this] at hlen
        cases hlen
      · have hown1 := own_below hr hb1
        have hcell := h2.2 a2 rfl
        clear hr hr1 ha h2
        go_wp2_with (first
          | (at_builtin; refine wpList_append_own _ rfl _ _ 51 rfl w0.heap.size 5 i0 (.int .u8 0) 1 1 hu hi hz0 hz1 hz2 rfl (by decide) _ _ _ rfl hown1 a2 4 c2' (byV (litN Y 4)) rfl (by rw [byV_len, hlen]) hcell (byV_one _) (by unfold maxLen; omega) (by omega) (by have := hb1.size; omega) ?_; intro v' w2 hown' hg2 hnil2))
        have hbb : Below w0.heap.size w0 w2 := (below_two hb hb1).grown hg2 (by have := hb1.size; omega) (fun j hj => (hown1.lt j hj).1)
        go_round
        case rel =>
          refine ⟨2, by go_num, by omega, hbb, ?_⟩
          have := hown'
          simp [txtN, byV_append] at this ⊢
          exact this
        case measure => simp [intOf]
    · have hr' : wr.ownsRow w0.heap.size 5 1 u9 8 (byV (litN F 4 ++ litN Y 4)) := by have := hr; simpa [txtN] using this
      replace hr := hr'
      clear hr'
      go_wp2_with fail
      refine wp_region_D (S := (fun W : World => Below w0.heap.size w0 W)) (fun _ => true) (by kernel_rfl) hb.drew (fun hHeld => ?_)
      simp only [List.size_toArray, List.length_cons, List.length_nil, Nat.reduceAdd, Array.replicate_succ, Array.replicate_zero, List.push_toArray, List.append_toArray, List.nil_append, List.cons_append]
      refine WD_free (i := 0) (oi := _) (v := ?_) rfl (by kernel_rfl) (fun _ _ _ h => h) (Or.inl ⟨by rfl, ?_⟩) ?_
      rotate_left
      · (intro W hS; (try dsimp only at hS); clear hS; go_simp; with_reducible rfl)
      try simp only [Act.put, List.getElem_toArray, List.getElem_cons_succ, List.getElem_cons_zero, List.setIfInBounds_toArray, List.set_cons_zero, List.set_cons_succ]
      refine WD_free (i := 1) (oi := _) (v := ?_) rfl (by kernel_rfl) (fun _ _ _ h => h) (Or.inl ⟨by rfl, ?_⟩) ?_
      rotate_left
      · (intro W hS; (try dsimp only at hS); clear hS; go_simp; with_reducible rfl)
      try simp only [Act.put, List.getElem_toArray, List.getElem_cons_succ, List.getElem_cons_zero, List.setIfInBounds_toArray, List.set_cons_zero, List.set_cons_succ]
      refine WD_free (i := 5) (oi := _) (v := ?_) rfl (by kernel_rfl) (fun _ _ _ h => h) (Or.inl ⟨by rfl, ?_⟩) ?_
      rotate_left
      · (intro W hS; (try dsimp only at hS); clear hS; go_simp; with_reducible rfl)
      try simp only [Act.put, List.getElem_toArray, List.getElem_cons_succ, List.getElem_cons_zero, List.setIfInBounds_toArray, List.set_cons_zero, List.set_cons_succ]
      refine WD_take (i := 6) (oi := _) (v := ?_) rfl (by kernel_rfl) (fun _ _ _ h => h) (Or.inl ⟨by rfl, ?_⟩) (by assumption) ?_
      rotate_left
      · (intro W hS; (try dsimp only at hS); have kk := (hS.cell (p := ⟨w.heap.size, 1, none⟩) hlt0).trans k1; clear hS; go_simp; with_reducible rfl)
      try simp only [Act.put, List.getElem_toArray, List.getElem_cons_succ, List.getElem_cons_zero, List.setIfInBounds_toArray, List.set_cons_zero, List.set_cons_succ]
      refine WD_step (i := 2) (o := _) rfl (by kernel_rfl) (fun K hK => ?_)
      refine step_app_none rfl (.tmp 23) (.tmp 24) 51 rfl w0.heap.size 5 i0 1 hu hi _ _ _ rfl hr.drew rfl ?_
      have hown' := hr.drew
      obtain ⟨w5, hw5⟩ : ∃ w5, wr.drew = w5 := ⟨_, rfl⟩
      rw [hw5] at hHeld hown' hK ⊢
      clear hw5
      refine hK.out _ _ (fun _ _ => hHeld) ?_
      clear hK K
      try simp only [Act.put, List.getElem_toArray, List.getElem_cons_succ, List.getElem_cons_zero, List.setIfInBounds_toArray, List.set_cons_zero, List.set_cons_succ]
      obtain ⟨a2, c2, hv', h2, _⟩ : ∃ a c, _ = Value.slice a (litN F 4 ++ (litN Y 4 ++ xs)).length c ∧ RowB w5 a c (litN F 4 ++ (litN Y 4 ++ xs)) ∧ ∀ ad, a = some ad → ∃ g, ad = ⟨g, 0, none⟩ := own_rowB (by rw [HLen.out, HCat.out]; exact hown')
      subst hv'
      have HO := Lib.hid (hash_Of a2 c2 _ w5 h2 (by rw [HLen.out]; omega) HB.out)
      rw [HLen.out, HAs.out] at HO
      rw [HLen.out]
      clear h2 hown'
      refine WD_step (i := 3) (o := _) rfl (by kernel_rfl) (fun K hK => ?_)
      go_simp
      refine HO.out.mono ?_
      rintro e w6 ⟨rfl, hb6⟩
      go_wp2_with fail
      replace hHeld := below_two hHeld hb6
      refine hK.out _ _ (fun _ _ => hHeld) ?_
      clear hK K
      try simp only [Act.put, List.getElem_toArray, List.getElem_cons_succ, List.getElem_cons_zero, List.setIfInBounds_toArray, List.set_cons_zero, List.set_cons_succ]
      refine WD_free (i := 4) (oi := _) (v := ?_) rfl (by kernel_rfl) (fun _ _ _ h => h) (Or.inl ⟨by rfl, ?_⟩) ?_
      rotate_left
      · (intro W hS; (try dsimp only at hS); clear hS; go_simp; with_reducible rfl)
      try simp only [Act.put, List.getElem_toArray, List.getElem_cons_succ, List.getElem_cons_zero, List.setIfInBounds_toArray, List.set_cons_zero, List.set_cons_succ]
      refine WD_free (i := 7) (oi := _) (v := ?_) rfl (by kernel_rfl) (fun _ _ _ h => h) (Or.inl ⟨by rfl, ?_⟩) ?_
      rotate_left
      · (intro W hS; (try dsimp only at hS); clear hS; go_simp; with_reducible rfl)
      try simp only [Act.put, List.getElem_toArray, List.getElem_cons_succ, List.getElem_cons_zero, List.setIfInBounds_toArray, List.set_cons_zero, List.set_cons_succ]
      refine WD_free (i := 8) (oi := _) (v := ?_) rfl (by kernel_rfl) (fun _ _ _ h => h) (Or.inl ⟨by rfl, ?_⟩) ?_
      rotate_left
      · (intro W hS; (try dsimp only at hS); clear hS; go_simp; with_reducible rfl)
      try simp only [Act.put, List.getElem_toArray, List.getElem_cons_succ, List.getElem_cons_zero, List.setIfInBounds_toArray, List.set_cons_zero, List.set_cons_succ]
      refine WD_done (by kernel_rfl) ?_ _
      try simp only [f5, f7]
      go_wp2
      go_ret
      exact ⟨rfl, below_two hbw hHeld⟩
set_option maxRecDepth 100000 in
set_option maxHeartbeats 6400000 in
theorem ref_TextAsks_none (P Q G H : Int) (F Y : Nat)  (w : World) (q1 : 2 ≤ Q) (q2 : Q ≤ 1048576) (hF : F ≤ 1048576) (hY : Y ≤ 1048576)  :
    Calls Try.prog 31 #[.agg #[.int .i64 P, .int .i64 Q, .int .i64 G, .int .i64 H], .int .i64 Y, .int .i64 F, .slice none 0 0] w fun e w' => e = .returned (.int .i64 ((askN F Y [] : Nat) % Q)) ∧ Below w.heap.size w w' := by
  obtain ⟨xs, hxs⟩ : ∃ xs : List Nat, [] = xs := ⟨_, rfl⟩
  have hx : ∀ x ∈ xs, x < 256 := by rw [← hxs]; simp
  have hl : xs.length ≤ 8192 := by rw [← hxs]; simp
  have hL0 : xs.length = 0 := by rw [← hxs]; rfl
  rw [hxs]
  have HAs : Hid (sumN (litN F 4 ++ (litN Y 4 ++ xs)) = askN F Y xs) := Lib.hid rfl
  have hlt := askN_lt F Y xs
  obtain ⟨A, hA⟩ : ∃ A, askN F Y xs = A := ⟨_, rfl⟩
  rw [hA] at HAs hlt ⊢
  clear hA
  have HB : Hid (∀ x ∈ litN F 4 ++ (litN Y 4 ++ xs), x < 256) := Lib.hid fun x hm => by
    rcases List.mem_append.1 hm with h | h
    · exact litN_lt _ _ x h
    · rcases List.mem_append.1 h with h | h
      · exact litN_lt _ _ x h
      · exact hx x h
  have HTx : Hid (byV (txtN [F, Y]) = byV (litN F 4 ++ litN Y 4)) := Lib.hid (by simp [txtN])
  obtain ⟨L, hL⟩ : ∃ L, L = xs.length := ⟨_, rfl⟩
  have HL := Lib.hid hL
  rw [← hL] at hl hL0
  have HLen : Hid ((litN F 4 ++ (litN Y 4 ++ xs)).length = 8 + L) := Lib.hid (by simp [litN_len, ← hL]; omega)
  subst hL0
  have HCat : Hid (byV (litN F 4 ++ (litN Y 4 ++ xs)) = byV (litN F 4 ++ litN Y 4)) := Lib.hid (by rw [← hxs, List.append_nil])
  obtain ⟨i0, hi, hz0, hz1, hz2⟩ := info_parts byte_info
  have hu : Try.prog.underlying 51 = some (.slice 5) := by kernel_rfl
  have f3 : (Q == 0) = false := by simp; omega
  have f4 : ¬ Q = 0 := by omega
  have f5 : wrap64 (A : Int) = A := by unfold wrap64; omega
  have f6 : (A : Int).tmod Q = (A : Int) % Q := Int.tmod_eq_emod_of_nonneg (by omega)
  have f7 : IntKind.i64.wrap (A : Int) = A := IntWalk.i64_in _ (by omega)
  clear hL hx hxs
  go_enter Try.func31, Try.ntmps31
  go_wp2_with fail
  obtain ⟨w0, hw0⟩ : ∃ W, W = w.alloc (.cells #[.int .i64 P, .int .i64 Q, .int .i64 G, .int .i64 H] 23) := ⟨_, rfl⟩
  have k1 : w0.cell? ⟨w.heap.size, 1, none⟩ = some (.int .i64 Q) := by rw [hw0]; simp [go_sem]
  have hbw : Below w.heap.size w w0 := by rw [hw0]; exact (Below.refl _ _).alloc (Nat.le_refl _) _
  have hlt0 : w.heap.size < w0.heap.size := by rw [hw0]; simp
  rw [← hw0]
  clear hw0
  go_wp2_with fail
  refine (ref_little F 4 _ (by omega) (by omega)).mono ?_
  rintro e w1 ⟨u1, rfl, hb1, hr1⟩
  go_wp2_with fail
  refine (ref_little Y 4 _ (by omega) (by omega)).mono ?_
  rintro e w2 ⟨u2, rfl, hb2, hr2⟩
  have hlen := litN_len 4 Y
  obtain ⟨a2, c2', rfl, h2, ha⟩ : ∃ a c, u2 = .slice a (litN Y 4).length c ∧ RowB w2 a c (litN Y 4) ∧ ∀ ad, a = some ad → ∃ g, ad = ⟨g, 0, none⟩ := own_rowB (by rw [hlen]; exact hr2)
  rw [hlen]
  rcases a2 with _ | a2
  · have := (h2.1 rfl).1
    rw [this] at hlen
    cases hlen
  · have hown1 := own_below hr1 hb2
    have hcell := h2.2 a2 rfl
    have hb02 := below_two hb1 hb2
    clear hr1 hr2 ha h2
    go_wp2_with (first
      | (at_builtin; refine wpList_append_own _ rfl _ _ 51 rfl w0.heap.size 5 i0 (.int .u8 0) 1 1 hu hi hz0 hz1 hz2 rfl (by decide) _ _ _ rfl hown1 a2 4 c2' (byV (litN Y 4)) rfl (by rw [byV_len, hlen]) hcell (byV_one _) (by unfold maxLen; omega) (by omega) (by have := hb02.size; omega) ?_; intro v wr hown' hg2 hnil2)
      | fail)
    have hb : Below w0.heap.size w0 wr := hb02.grown hg2 hb02.size (fun j hj => (hown1.lt j hj).1)
    have hr : wr.ownsRow w0.heap.size 5 1 v 8 (byV (litN F 4 ++ litN Y 4)) := by rw [byV_append]; exact hown'
    clear hown' hg2 hnil2 hown1 hcell hb1 hb2 hb02
    refine wp_region_D (S := (fun W : World => Below w0.heap.size w0 W)) (fun _ => true) (by kernel_rfl) hb.drew (fun hHeld => ?_)
    simp only [List.size_toArray, List.length_cons, List.length_nil, Nat.reduceAdd, Array.replicate_succ, Array.replicate_zero, List.push_toArray, List.append_toArray, List.nil_append, List.cons_append]
    refine WD_free (i := 0) (oi := _) (v := ?_) rfl (by kernel_rfl) (fun _ _ _ h => h) (Or.inl ⟨by rfl, ?_⟩) ?_
    rotate_left
    · (intro W hS; (try dsimp only at hS); clear hS; go_simp; with_reducible rfl)
    try simp only [Act.put, List.getElem_toArray, List.getElem_cons_succ, List.getElem_cons_zero, List.setIfInBounds_toArray, List.set_cons_zero, List.set_cons_succ]
    refine WD_free (i := 1) (oi := _) (v := ?_) rfl (by kernel_rfl) (fun _ _ _ h => h) (Or.inl ⟨by rfl, ?_⟩) ?_
    rotate_left
    · (intro W hS; (try dsimp only at hS); clear hS; go_simp; with_reducible rfl)
    try simp only [Act.put, List.getElem_toArray, List.getElem_cons_succ, List.getElem_cons_zero, List.setIfInBounds_toArray, List.set_cons_zero, List.set_cons_succ]
    refine WD_free (i := 4) (oi := _) (v := ?_) rfl (by kernel_rfl) (fun _ _ _ h => h) (Or.inl ⟨by rfl, ?_⟩) ?_
    rotate_left
    · (intro W hS; (try dsimp only at hS); clear hS; go_simp; with_reducible rfl)
    try simp only [Act.put, List.getElem_toArray, List.getElem_cons_succ, List.getElem_cons_zero, List.setIfInBounds_toArray, List.set_cons_zero, List.set_cons_succ]
    refine WD_take (i := 5) (oi := _) (v := ?_) rfl (by kernel_rfl) (fun _ _ _ h => h) (Or.inl ⟨by rfl, ?_⟩) (by assumption) ?_
    rotate_left
    · (intro W hS; (try dsimp only at hS); have kk := (hS.cell (p := ⟨w.heap.size, 1, none⟩) hlt0).trans k1; clear hS; go_simp; with_reducible rfl)
    try simp only [Act.put, List.getElem_toArray, List.getElem_cons_succ, List.getElem_cons_zero, List.setIfInBounds_toArray, List.set_cons_zero, List.set_cons_succ]
    refine WD_step (i := 2) (o := _) rfl (by kernel_rfl) (fun K hK => ?_)
    refine step_app_none rfl (.tmp 15) (.tmp 16) 51 rfl w0.heap.size 5 i0 1 hu hi _ _ _ rfl hr.drew rfl ?_
    have hown' := hr.drew
    obtain ⟨w5, hw5⟩ : ∃ w5, wr.drew = w5 := ⟨_, rfl⟩
    rw [hw5] at hHeld hown' hK ⊢
    clear hw5
    refine hK.out _ _ (fun _ _ => hHeld) ?_
    clear hK K
    try simp only [Act.put, List.getElem_toArray, List.getElem_cons_succ, List.getElem_cons_zero, List.setIfInBounds_toArray, List.set_cons_zero, List.set_cons_succ]
    obtain ⟨a2, c2, hv', h2, _⟩ : ∃ a c, _ = Value.slice a (litN F 4 ++ (litN Y 4 ++ xs)).length c ∧ RowB w5 a c (litN F 4 ++ (litN Y 4 ++ xs)) ∧ ∀ ad, a = some ad → ∃ g, ad = ⟨g, 0, none⟩ := own_rowB (by rw [HLen.out, HCat.out]; exact hown')
    subst hv'
    rcases a2 with _ | a2
    · have := congrArg List.length (h2.1 rfl).1; rw [HLen.out] at this; simp at this
    have HO := Lib.hid (ref_Sum a2 c2 _ w5 h2 (by rw [HLen.out]; omega) (by rw [HLen.out]; omega) HB.out)
    rw [HLen.out, HAs.out] at HO
    rw [HLen.out]
    clear h2 hown'
    refine WD_step (i := 3) (o := _) rfl (by kernel_rfl) (fun K hK => ?_)
    go_simp
    refine HO.out.mono ?_
    rintro e w6 ⟨rfl, hb6⟩
    go_wp2_with fail
    replace hHeld := below_two hHeld hb6
    refine hK.out _ _ (fun _ _ => hHeld) ?_
    clear hK K
    try simp only [Act.put, List.getElem_toArray, List.getElem_cons_succ, List.getElem_cons_zero, List.setIfInBounds_toArray, List.set_cons_zero, List.set_cons_succ]
    refine WD_free (i := 6) (oi := _) (v := ?_) rfl (by kernel_rfl) (fun _ _ _ h => h) (Or.inl ⟨by rfl, ?_⟩) ?_
    rotate_left
    · (intro W hS; (try dsimp only at hS); clear hS; go_simp; with_reducible rfl)
    try simp only [Act.put, List.getElem_toArray, List.getElem_cons_succ, List.getElem_cons_zero, List.setIfInBounds_toArray, List.set_cons_zero, List.set_cons_succ]
    refine WD_free (i := 7) (oi := _) (v := ?_) rfl (by kernel_rfl) (fun _ _ _ h => h) (Or.inl ⟨by rfl, ?_⟩) ?_
    rotate_left
    · (intro W hS; (try dsimp only at hS); clear hS; go_simp; with_reducible rfl)
    try simp only [Act.put, List.getElem_toArray, List.getElem_cons_succ, List.getElem_cons_zero, List.setIfInBounds_toArray, List.set_cons_zero, List.set_cons_succ]
    refine WD_done (by kernel_rfl) ?_ _
    try simp only [f5, f7]
    go_wp2
    go_ret
    exact ⟨rfl, below_two hbw hHeld⟩
end Go.Proofs.Ytgmkmlfppblpfaa

/- tree.up. -/
import Derived.Test.YtpikjahgnnejmaaChk
import Derived.Test.YtpikjahgnnejmaaTrM
import Derived.Test.YtpikjahgnnejmaaHoldI
import Derived.Test.YtpikjahgnnejmaaTr1
import Derived.Test.YtpikjahgnnejmaaOwnG
namespace Go.Proofs.Ytpikjahgnnejmaa
open Go.RowKit Go.Shelf
attribute [local go_sem] Oper.semAt_some
set_option linter.unusedVariables false
set_option linter.unusedSimpArgs false
theorem own_le {w : World} {base base' size n : Nat} {e : TypeId} {v : Value} {xs : List Value} (h : w.ownsRow base e size v n xs) (hb : base' ≤ base) : w.ownsRow base' e size v n xs := by
  refine ⟨h.1, ?_⟩
  rcases h.2 with h0 | ⟨g, cap, cur, hv, hg, rest⟩
  · exact .inl h0
  · exact .inr ⟨g, cap, cur, hv, Nat.le_trans hb hg, rest⟩
def u32V (l : List Nat) : List Value := l.map fun (n : Nat) => Value.int .u32 (n : Int)
theorem u32_info : (Try.prog.info? 23).map (fun i => (i.zero, i.size, i.bytes)) = some (some (.int .u32 0), 1, 4) := by kernel_rfl
theorem cell_new1 (w : World) (v : Value) (T : TypeId) (hv : v.oneCell' = true) : ∀ (j : Nat) (u : Value), [v][j]? = some u → (w.alloc (.cells #[v] T)).cell? ((⟨w.heap.size, 0, none⟩ : Addr).add j) = some u := by
  intro j u hu
  match j, hu with
  | 0, hu => cases hu; simp [go_sem, Addr.add]
  | j + 1, hu => simp at hu
/-- the k-th of the row above -/
def upA (xs : List Nat) (k : Nat) : Nat := if 2 * k + 1 < xs.length then sumN (pairN (xs.getD (2 * k) 0) (xs.getD (2 * k + 1) 0)) else xs.getD (2 * k) 0
theorem upL_map (xs : List Nat) : upL xs = (List.range ((xs.length + 1) / 2)).map (upA xs) := by
  refine List.ext_getElem (by simp [upL_len]) fun k h1 h2 => ?_
  have hk : k < (xs.length + 1) / 2 := by simpa using h2
  rw [List.getElem_map, List.getElem_range]
  have e : (upL xs)[k] = (upL xs).getD k 0 := by rw [List.getD_eq_getElem?_getD, List.getElem?_eq_getElem h1]; rfl
  rw [e]
  unfold upA
  split
  · exact upL_pair xs k (by assumption)
  · exact upL_last xs k (by omega)
theorem ownsRow_set_other {w : World} {base size n : Nat} {e : TypeId} {v : Value} {xs : List Value} (h : w.ownsRow base e size v n xs) {a : Addr} (ha : a.block < base) (u : Value) : (w.setCell a u).ownsRow base e size v n xs := by
  rcases h with ⟨h0, h | ⟨g, cap, cur, h1, h2, h3, h4⟩⟩
  · exact ⟨h0, .inl h⟩
  · exact ⟨h0, .inr ⟨g, cap, cur, h1, h2, by rw [Below.heap_setCell _ _ _ _ (by omega)]; exact h3, h4⟩⟩
theorem row_cells {W : World} {base : Nat} {e : TypeId} {size : Nat} {v : Value} {k : Nat} {xs : List Value} (h : W.ownsRow base e size v k xs) {j : Nat} {o : Obj} (hj : v.ownBlock = some j) (ho : W.heap[j]? = some o) : o.isCells = true := by
  rcases h.2 with ⟨h1, _⟩ | ⟨g, cap, cur, h1, h2, h3, _⟩
  · rw [h1] at hj; cases hj
  · rw [h1] at hj
    cases hj
    rw [h3] at ho
    cases ho
    rfl
/-- the world while up runs -/
structure UpI (w : World) (b o L c : Nat) (v : Value) (W : World) (out : List Nat) : Prop where
  bel : Below w.heap.size w W
  l : Boxed W w.heap.size 44 v
  s : Boxed W (w.heap.size + 1) 44 (.slice (some ⟨b, o, none⟩) L c)
  n : Boxed W (w.heap.size + 2) 3 (.int .i64 2)
  own : W.ownsRow (w.heap.size + 3) 23 1 v out.length (u32V out)
theorem UpI.alloc {w W : World} {b o L c : Nat} {v : Value} {out : List Nat} (h : UpI w b o L c v W out) (x : Obj) : UpI w b o L c v (W.alloc x) out := ⟨h.bel.alloc h.bel.size x, h.l.alloc x, h.s.alloc x, h.n.alloc x, h.own.alloc x⟩
theorem UpI.drew {w W : World} {b o L c : Nat} {v : Value} {out : List Nat} (h : UpI w b o L c v W out) : UpI w b o L c v W.drew out := ⟨h.bel.drew, h.l, h.s, h.n, h.own⟩
theorem UpI.put {w W : World} {b o L c : Nat} {v : Value} {out : List Nat} (h : UpI w b o L c v W out) {k : Nat} {y : Obj} (hk : w.heap.size + 3 ≤ k) (hy : W.heap[k]? = some y) (hc : y.isCells = false) (x : Obj) : UpI w b o L c v (W.putObj k x) out :=
  ⟨below_put h.bel (by omega) x, boxed_put h.l (by omega) x, boxed_put h.s (by omega) x, boxed_put h.n (by omega) x, ownsRow_putObj h.own x hy hc⟩
theorem UpI.below {w W W' : World} {b o L c : Nat} {v : Value} {out : List Nat} (h : UpI w b o L c v W out) (hb : Below W.heap.size W W') : UpI w b o L c v W' out :=
  ⟨h.bel.trans (hb.mono h.bel.size), (hb.block _ h.l.lt).trans h.l, (hb.block _ h.s.lt).trans h.s, (hb.block _ h.n.lt).trans h.n, own_keep h.own hb⟩
theorem keeps_below {W W' : World} (hb : Below W.heap.size W W') : KeepsOthers W W' := ⟨hb.size, fun k o hk _ => (hb.block k (Array.getElem?_eq_some_iff.1 hk).1).trans hk⟩
theorem pair_row (w : World) (a b n : Nat) (hn : w.heap.size = n) : RowB (w.alloc (.cells #[.int .u8 1, .int .u8 ((a % 256 : Nat) : Int), .int .u8 ((a / 256 % 256 : Nat) : Int), .int .u8 ((b % 256 : Nat) : Int), .int .u8 ((b / 256 % 256 : Nat) : Int)] 5)) (some ⟨n, 0, none⟩) 5 (pairN a b) := by
  subst hn
  refine ⟨fun e => (by cases e), fun ad e j u hu => ?_⟩
  cases e
  rw [add_at]
  have h0 := World.alloc_heap_new w (.cells #[.int .u8 1, .int .u8 ((a % 256 : Nat) : Int), .int .u8 ((a / 256 % 256 : Nat) : Int), .int .u8 ((b % 256 : Nat) : Int), .int .u8 ((b / 256 % 256 : Nat) : Int)] 5)
  simp only [World.cell?, h0]
  simpa [byV, pairN] using hu
theorem pair_small (a b : Nat) : ∀ x ∈ pairN a b, x < 256 := by
  intro x hx
  simp only [pairN, List.mem_cons, List.not_mem_nil, or_false] at hx
  omega
theorem UpI.app {w W w2 : World} {b o L c x : Nat} {v v' : Value} {out : List Nat} (h : UpI w b o L c v W out) (hg : W.grownBy w2 v.ownBlock) {m : Nat} (hm : m = out.length) (ho : w2.ownsRow (w.heap.size + 3) 23 1 v' (m + 1) (u32V out ++ [.int .u32 (x : Int)])) :
    UpI w b o L c v' (w2.setCell ⟨w.heap.size, 0, none⟩ v') (out ++ [x]) := by
  subst hm
  have hne : ∀ k, k < w.heap.size + 3 → some k ≠ v.ownBlock := fun k hk e => by
    have := (h.own.lt k e.symm).1
    omega
  have hs := h.bel.size
  refine ⟨(h.bel.grown hg hs (fun j hj => by have := (h.own.lt j hj).1; omega)).setCell (p := ⟨w.heap.size, 0, none⟩) (Nat.le_refl _) _, (h.l.kept hg (hne _ (by omega))).set v', (h.s.kept hg (hne _ (by omega))).other (by omega) v', (h.n.kept hg (hne _ (by omega))).other (by omega) v', ?_⟩
  have h1 := ownsRow_set_other ho (a := ⟨w.heap.size, 0, none⟩) (by show w.heap.size < w.heap.size + 3; omega) v'
  have e : u32V (out ++ [x]) = u32V out ++ [.int .u32 (x : Int)] := by simp [u32V]
  rw [List.length_append, e]
  exact h1
set_option maxRecDepth 20000 in
set_option maxHeartbeats 3200000 in
theorem tree_up (b o L c : Nat) (xs : List Nat) (w : World) (hx : ∀ (i x : Nat), xs[i]? = some x → w.cell? ⟨b, o + i, none⟩ = some (.int .u32 (x : Int))) (hL : xs.length = L) (hl : L ≤ 64) (hLc : L ≤ c) (hc63 : c ≤ 9223372036854775807) (hr : ∀ x ∈ xs, x < 65536) :
    Calls Try.prog 56 #[.slice (some ⟨b, o, none⟩) L c] w fun e w' => ∃ v, e = .returned v ∧ Below w.heap.size w w' ∧ w'.ownsRow w.heap.size 23 1 v (upL xs).length (u32V (upL xs)) := by
  obtain ⟨i0, hi, hz0, hz1, hz2⟩ := info_parts u32_info
  have hu : Try.prog.underlying 44 = some (.slice 23) := by kernel_rfl
  have HIt := Lib.hid fun B1 B2 => chunk_iter b o L c B1 B2 hl hLc hc63
  have HX := Lib.hid hx
  have HL := Lib.hid hL
  have HR := Lib.hid hr
  clear hx hr hL
  refine (callsIn_wide (n := 0)).1 ?_
  refine callsIn_of_wp_marks Try.func56 rfl trivial ?_ rfl
  simp only [Try.ntmps56, List.size_toArray, List.length_cons, List.length_nil, Nat.reduceAdd, Nat.reduceSub, Array.replicate_succ, Array.replicate_zero, List.push_toArray, List.append_toArray, List.nil_append, List.cons_append]
  gi_wp2
  refine ⟨trivial, rfl, (callsIn_wide.2 (slices_Chunk _ _ _ _)).mono ?_⟩
  rintro e w' ⟨rfl, rfl⟩
  gi_wp2
  refine wp_range_caps (gf := 67) (R := fun W => Boxed W (w.heap.size + 1) 44 (.slice (some ⟨b, o, none⟩) L c) ∧ Boxed W (w.heap.size + 1 + 1) 3 (.int .i64 2)) rfl (enters_of Try.func67 (by kernel_rfl) rfl) (HIt.out _ _) (fun _ => rfl)
    (fun pre W => ∃ v, UpI w b o L c v W (pre.map (upA xs)))
    (fun pre W => False) ?sal ?spu (fun _ _ _ _ _ _ _ _ h => h) ?hR ?sdr ?i0
    (fun k => { tmps := #[.slice (some ⟨b, o, none⟩) L c, undef, .slice none 0 0, .pointer (some ⟨w.heap.size, 0, none⟩), .slice (some ⟨b, o + 2 * k, none⟩) (min 2 (L - 2 * k)) (min 2 (L - 2 * k)), .slice (some ⟨b, o, none⟩) L c,
      .func (.func 67) #[] #[.pointer (some ⟨w.heap.size + 1, 0, none⟩), .pointer (some ⟨w.heap.size + 1 + 1, 0, none⟩)], .slice (some ⟨b, o + 2 * k, none⟩) (min 2 (L - 2 * k)) (min 2 (L - 2 * k)),
      undef, undef, undef, undef, undef, undef, undef, undef, undef, undef, undef, undef, undef, undef, undef, undef, undef, undef, undef, undef, undef], defers := [] }) ?assign ?body ?done (fun _ _ _ _ h => h.elim)
  case sal => exact fun pre W x ⟨v, h⟩ => ⟨v, h.alloc x⟩
  case spu =>
    simp only [World.size_alloc]
    exact fun pre W k x y hk hy hc ⟨v, h⟩ => ⟨v, h.put (by omega) hy hc x⟩
  case hR => exact fun pre W ⟨v, h⟩ => ⟨h.s, h.n⟩
  case sdr => exact fun pre W ⟨v, h⟩ => ⟨v, h.drew⟩
  case i0 =>
    have b0 := Boxed.new w 44 (.slice none 0 0)
    have b1 := Boxed.new (w.alloc (.cells #[.slice none 0 0] 44)) 44 (.slice (some ⟨b, o, none⟩) L c)
    have b2 := Boxed.new ((w.alloc (.cells #[.slice none 0 0] 44)).alloc (.cells #[.slice (some ⟨b, o, none⟩) L c] 44)) 3 (.int .i64 2)
    simp only [World.size_alloc] at b1 b2
    exact ⟨.slice none 0 0, (((Below.refl _ _).alloc (Nat.le_refl _) _).alloc (by simp) _).alloc (by simp; omega) _, (b0.alloc _).alloc _, b1.alloc _, b2, World.ownsRow_nil _ _ _ _⟩
  case assign =>
    intro l k W K hK
    dsimp only [encK]
    gi_wp2
    exact hK
  case body =>
    rintro l pre k W ⟨v, hI⟩ hpre
    have hk : k < (L + 1) / 2 := by
      have := hpre.subset (show k ∈ pre ++ [k] by simp)
      simpa using this
    have hkept : ∀ (i x : Nat), xs[i]? = some x → W.cell? ⟨b, o + i, none⟩ = some (.int .u32 (x : Int)) := fun i x h => by
      have h1 := HX.out i x h
      exact (hI.bel.cell (p := ⟨b, o + i, none⟩) (World.block_lt_of_cell? _ _ h1)).trans h1
    have cl := hI.l.cell
    have fl := hI.l.frozen
    have HS : Hid ((pre ++ [k]).map (upA xs) = pre.map (upA xs) ++ [upA xs k]) := Lib.hid (by simp)
    have HI := Lib.hid hI
    have HK := Lib.hid hkept
    have hg : ∀ i, i < L → ∃ x, xs[i]? = some x ∧ xs.getD i 0 = x ∧ x < 65536 := fun i hi => by
      have h1 : xs[i]? = some (xs.getD i 0) := by rw [List.getD_eq_getElem?_getD, List.getElem?_eq_getElem (by rw [HL.out]; exact hi)]; rfl
      exact ⟨_, h1, rfl, HR.out _ (List.mem_of_getElem? h1)⟩
    have HG := Lib.hid hg
    have HPL : Hid (pre.length ≤ 64) := Lib.hid (by
      have h1 := hpre.length_le
      simp at h1 ⊢
      omega)
    clear hpre hI hkept hg
    by_cases h2 : 2 * k + 1 < L
    · have m2 : min 2 (L - 2 * k) = 2 := by omega
      rw [m2]
      obtain ⟨x, hx, hxd, hx2⟩ := HG.out (2 * k) (by omega)
      obtain ⟨y, hy, hyd, hy2⟩ := HG.out (2 * k + 1) (by omega)
      have k1 := HK.out _ _ hx
      have k2 := HK.out _ _ hy
      rw [← Nat.add_assoc] at k2
      have HU : Hid (upA xs k = sumN (pairN x y)) := Lib.hid (by unfold upA; rw [HL.out, if_pos h2, hxd, hyd])
      clear hx hxd hy hyd m2 h2
      have ho := HI.out.own
      rw [List.length_map] at ho
      have hlen : pre.length ≤ 64 := HPL.out
      have zW : w.heap.size + 3 ≤ W.heap.size := HI.out.n.lt
      have zl : w.heap.size < W.heap.size := World.block_lt_of_cell? W _ cl
      have zb : b < W.heap.size := World.block_lt_of_cell? W _ k1
      gi_wp2
      refine wpIn_region_D (S := (fun W' : World => Below W.heap.size W W')) (fun j => j != 10 && j != 11) (by kernel_rfl) (Below.refl _ _).drew (fun hHeld => ?_)
      simp only [List.size_toArray, List.length_cons, List.length_nil, Nat.reduceAdd, Array.replicate_succ, Array.replicate_zero, List.push_toArray, List.append_toArray, List.nil_append, List.cons_append]
      refine WDI_take (i := 0) (oi := _) (v := ?_) rfl (by kernel_rfl) (fun _ _ _ h => h) (Or.inl ⟨by rfl, ?_⟩) (fun _ => by rfl) (by assumption) ?_
      rotate_left
      · (intro W' hS; (try dsimp only at hS); have kk := (hS.cell (p := ⟨w.heap.size, 0, none⟩) zl).trans cl; clear hS; go_simp; with_reducible rfl)
      try simp only [Act.put, List.getElem_toArray, List.getElem_cons_succ, List.getElem_cons_zero, List.setIfInBounds_toArray, List.set_cons_zero, List.set_cons_succ]
      refine WDI_free (i := 1) (oi := _) (v := ?_) rfl (by kernel_rfl) (fun _ _ _ h => h) (Or.inl ⟨by rfl, ?_⟩) (fun _ => by rfl) ?_
      rotate_left
      · (intro W' hS; (try dsimp only at hS); clear hS; go_simp; with_reducible rfl)
      try simp only [Act.put, List.getElem_toArray, List.getElem_cons_succ, List.getElem_cons_zero, List.setIfInBounds_toArray, List.set_cons_zero, List.set_cons_succ]
      refine WDI_free (i := 2) (oi := _) (v := ?_) rfl (by kernel_rfl) (fun _ _ _ h => h) (Or.inl ⟨by rfl, ?_⟩) (fun _ => by rfl) ?_
      rotate_left
      · (intro W' hS; (try dsimp only at hS); clear hS; go_simp; with_reducible rfl)
      try simp only [Act.put, List.getElem_toArray, List.getElem_cons_succ, List.getElem_cons_zero, List.setIfInBounds_toArray, List.set_cons_zero, List.set_cons_succ]
      refine WDI_take (i := 3) (oi := _) (v := ?_) rfl (by kernel_rfl) (fun _ _ _ h => h) (Or.inl ⟨by rfl, ?_⟩) (fun _ => by rfl) (by assumption) ?_
      rotate_left
      · (intro W' hS; (try dsimp only at hS); have kk := (hS.cell (p := ⟨b, o + 2 * k, none⟩) zb).trans k1; clear hS; go_simp; with_reducible rfl)
      try simp only [Act.put, List.getElem_toArray, List.getElem_cons_succ, List.getElem_cons_zero, List.setIfInBounds_toArray, List.set_cons_zero, List.set_cons_succ]
      refine WDI_free (i := 4) (oi := _) (v := ?_) rfl (by kernel_rfl) (fun _ _ _ h => h) (Or.inl ⟨by rfl, ?_⟩) (fun _ => by rfl) ?_
      rotate_left
      · (intro W' hS; (try dsimp only at hS); clear hS; go_simp; with_reducible rfl)
      try simp only [Act.put, List.getElem_toArray, List.getElem_cons_succ, List.getElem_cons_zero, List.setIfInBounds_toArray, List.set_cons_zero, List.set_cons_succ]
      refine WDI_free (i := 5) (oi := _) (v := ?_) rfl (by kernel_rfl) (fun _ _ _ h => h) (Or.inl ⟨by rfl, ?_⟩) (fun _ => by rfl) ?_
      rotate_left
      · (intro W' hS; (try dsimp only at hS); clear hS; go_simp; with_reducible rfl)
      try simp only [Act.put, List.getElem_toArray, List.getElem_cons_succ, List.getElem_cons_zero, List.setIfInBounds_toArray, List.set_cons_zero, List.set_cons_succ]
      refine WDI_take (i := 6) (oi := _) (v := ?_) rfl (by kernel_rfl) (fun _ _ _ h => h) (Or.inl ⟨by rfl, ?_⟩) (fun _ => by rfl) (by assumption) ?_
      rotate_left
      · (intro W' hS; (try dsimp only at hS); have kk := (hS.cell (p := ⟨b, o + 2 * k + 1, none⟩) zb).trans k2; clear hS; go_simp; with_reducible rfl)
      try simp only [Act.put, List.getElem_toArray, List.getElem_cons_succ, List.getElem_cons_zero, List.setIfInBounds_toArray, List.set_cons_zero, List.set_cons_succ]
      refine WDI_step (i := 7) (o := _) rfl (by kernel_rfl) (fun K hK => ?_)
      rw [if_pos (by rfl)]
      unfold Oper.wpIn
      refine ⟨(fun _ _ => trivial), ?_⟩
      rw [Oper.semAt_eq _ _ _ (fun c h => by cases h)]
      go_simp
      refine ⟨rfl, (CallsIn.inRound l (callsIn_wide.2 (tree_pairText x y _ (by omega) (by omega)))).mono ?_⟩
      rintro e w1 ⟨rfl, hw1⟩
      have hrow := pair_row W.drew x y W.heap.size rfl
      rw [← hw1] at hrow
      replace hHeld := (show Below W.heap.size W w1 by rw [hw1]; exact hHeld.alloc hHeld.size _)
      refine hK.out _ _ (fun _ _ => hHeld) ?_
      clear hK K
      try simp only [Act.put, List.getElem_toArray, List.getElem_cons_succ, List.getElem_cons_zero, List.setIfInBounds_toArray, List.set_cons_zero, List.set_cons_succ]
      clear hw1
      refine WDI_step (i := 8) (o := _) rfl (by kernel_rfl) (fun K hK => ?_)
      rw [if_pos (by rfl)]
      unfold Oper.wpIn
      refine ⟨(fun _ _ => trivial), ?_⟩
      rw [Oper.semAt_eq _ _ _ (fun c h => by cases h)]
      go_simp
      refine ⟨rfl, (CallsIn.inRound l (callsIn_wide.2 (hash_Of (some ⟨W.heap.size, 0, none⟩) 5 (pairN x y) w1 hrow (by simp [pairN]) (pair_small x y)))).mono ?_⟩
      rintro e w3 ⟨rfl, hw3⟩
      replace hHeld := hHeld.trans (hw3.mono hHeld.size)
      refine hK.out _ _ (fun _ _ => hHeld) ?_
      clear hK K
      try simp only [Act.put, List.getElem_toArray, List.getElem_cons_succ, List.getElem_cons_zero, List.setIfInBounds_toArray, List.set_cons_zero, List.set_cons_succ]
      clear hw3 hrow
      have HS3 := Lib.hid (show sumN (pairN x y) < 65536 from sumN_lt _)
      obtain ⟨z, hz⟩ : ∃ z, sumN (pairN x y) = z := ⟨_, rfl⟩
      rw [hz] at HU HS3 ⊢
      clear hz
      have hz3 := hHeld.size
      have HU3 := HI.out.below hHeld
      have ho3 := HU3.own
      rw [List.length_map] at ho3
      have HK3 := keeps_below hHeld
      have HU5 := HU3.alloc (.cells #[.int .u32 (z : Int)] 23)
      have hHeld3 := hHeld
      refine WDI_step (i := 9) (o := _) rfl (by kernel_rfl) (fun K hK => ?_)
      rw [if_pos (by rfl)]
      unfold Oper.wpIn
      refine ⟨(fun _ h => by first | trivial | cases h), ?_⟩
      rw [Oper.semAt_eq _ _ _ (fun c h => by cases h)]
      go_simp
      replace hHeld := hHeld.alloc hHeld.size (.cells #[.int .u32 (z : Int)] 23)
      refine hK.out _ _ (fun _ _ => hHeld) ?_
      clear hK K
      try simp only [Act.put, List.getElem_toArray, List.getElem_cons_succ, List.getElem_cons_zero, List.setIfInBounds_toArray, List.set_cons_zero, List.set_cons_succ]
      refine WDI_step (i := 10) (o := _) rfl (by kernel_rfl) (fun K hK => ?_)
      rw [if_pos (by rfl)]
      refine wpIn_append_own _ _ 44 rfl (w.heap.size + 3) 23 i0 (.int .u32 0) 1 4 hu hi hz0 hz1 hz2 rfl (by decide) _ _ _ rfl (ho3.alloc _) ⟨w3.heap.size, 0, none⟩ 1 1 [.int .u32 (z : Int)] rfl rfl (cell_new1 w3 _ _ rfl) (by simp [Value.oneCell']) (by unfold maxLen; omega) (by omega) (by simp; omega) ?_
      intro v' w2 hown2 hg2 hnil2
      obtain ⟨g, cap, rfl, hgs⟩ := own_shape hown2 (by omega)
      have hne2 : some w.heap.size ≠ v.ownBlock := fun e => by have := (ho.lt _ e.symm).1; omega
      have cl2 : w2.cell? ⟨w.heap.size, 0, none⟩ = some v := (HU5.l.kept hg2 hne2).cell
      have fl2 : w2.frozen? ⟨w.heap.size, 0, none⟩ = false := (HU5.l.kept hg2 hne2).frozen
      refine hK.out _ _ (fun h => by cases h) ?_
      clear hK K
      try simp only [Act.put, List.getElem_toArray, List.getElem_cons_succ, List.getElem_cons_zero, List.setIfInBounds_toArray, List.set_cons_zero, List.set_cons_succ]
      refine WDI_step (i := 11) (o := _) rfl (by kernel_rfl) (fun K hK => ?_)
      rw [if_pos (by rfl)]
      unfold Oper.wpIn
      refine ⟨(fun _ h => by first | trivial | cases h), ?_⟩
      rw [Oper.semAt_eq _ _ _ (fun c h => by cases h)]
      go_simp
      refine hK.out _ _ (fun h => by cases h) ?_
      clear hK K
      try simp only [Act.put, List.getElem_toArray, List.getElem_cons_succ, List.getElem_cons_zero, List.setIfInBounds_toArray, List.set_cons_zero, List.set_cons_succ]
      refine WDI_done (by kernel_rfl) ?_ _
      have HA := HU5.app hg2 (List.length_map ..).symm hown2
      have HKO := ((HK3.trans (KeepsOthers.alloc w3 (.cells #[.int .u32 (z : Int)] 23))).trans (KeepsOthers.of_grownBy hg2 (fun j o' hj ho' => row_cells HU5.own hj ho'))).trans (KeepsOthers.setCell w2 ⟨w.heap.size, 0, none⟩ (.slice (some ⟨g, 0, none⟩) (pre.length + 1) cap))
      exact ⟨HKO, _, by rw [HS.out, HU.out]; exact HA⟩
    · have m1 : min 2 (L - 2 * k) = 1 := by omega
      rw [m1]
      obtain ⟨x, hx, hxd, hx2⟩ := HG.out (2 * k) (by omega)
      have k1 := HK.out _ _ hx
      have HU : Hid (upA xs k = x) := Lib.hid (by unfold upA; rw [HL.out, if_neg h2, hxd])
      clear hx hxd m1 h2
      have ho := HI.out.own
      rw [List.length_map] at ho
      have hlen : pre.length ≤ 64 := HPL.out
      have HU5 := (HI.out.alloc (.cells #[.int .u32 (x : Int)] 23)).drew
      have zW : w.heap.size + 3 ≤ W.heap.size := HI.out.n.lt
      have zl : w.heap.size < W.heap.size := World.block_lt_of_cell? W _ cl
      have zb : b < W.heap.size := World.block_lt_of_cell? W _ k1
      gi_wp2
      refine wpIn_region_D (S := (fun W' : World => Below W.heap.size W W')) (fun j => j != 5 && j != 6) (by kernel_rfl) (Below.refl _ _).drew (fun hHeld => ?_)
      simp only [List.size_toArray, List.length_cons, List.length_nil, Nat.reduceAdd, Array.replicate_succ, Array.replicate_zero, List.push_toArray, List.append_toArray, List.nil_append, List.cons_append]
      refine WDI_take (i := 0) (oi := _) (v := ?_) rfl (by kernel_rfl) (fun _ _ _ h => h) (Or.inl ⟨by rfl, ?_⟩) (fun _ => by rfl) (by assumption) ?_
      rotate_left
      · (intro W' hS; (try dsimp only at hS); have kk := (hS.cell (p := ⟨w.heap.size, 0, none⟩) zl).trans cl; clear hS; go_simp; with_reducible rfl)
      try simp only [Act.put, List.getElem_toArray, List.getElem_cons_succ, List.getElem_cons_zero, List.setIfInBounds_toArray, List.set_cons_zero, List.set_cons_succ]
      refine WDI_free (i := 1) (oi := _) (v := ?_) rfl (by kernel_rfl) (fun _ _ _ h => h) (Or.inl ⟨by rfl, ?_⟩) (fun _ => by rfl) ?_
      rotate_left
      · (intro W' hS; (try dsimp only at hS); clear hS; go_simp; with_reducible rfl)
      try simp only [Act.put, List.getElem_toArray, List.getElem_cons_succ, List.getElem_cons_zero, List.setIfInBounds_toArray, List.set_cons_zero, List.set_cons_succ]
      refine WDI_free (i := 2) (oi := _) (v := ?_) rfl (by kernel_rfl) (fun _ _ _ h => h) (Or.inl ⟨by rfl, ?_⟩) (fun _ => by rfl) ?_
      rotate_left
      · (intro W' hS; (try dsimp only at hS); clear hS; go_simp; with_reducible rfl)
      try simp only [Act.put, List.getElem_toArray, List.getElem_cons_succ, List.getElem_cons_zero, List.setIfInBounds_toArray, List.set_cons_zero, List.set_cons_succ]
      refine WDI_take (i := 3) (oi := _) (v := ?_) rfl (by kernel_rfl) (fun _ _ _ h => h) (Or.inl ⟨by rfl, ?_⟩) (fun _ => by rfl) (by assumption) ?_
      rotate_left
      · (intro W' hS; (try dsimp only at hS); have kk := (hS.cell (p := ⟨b, o + 2 * k, none⟩) zb).trans k1; clear hS; go_simp; with_reducible rfl)
      try simp only [Act.put, List.getElem_toArray, List.getElem_cons_succ, List.getElem_cons_zero, List.setIfInBounds_toArray, List.set_cons_zero, List.set_cons_succ]
      refine WDI_step (i := 4) (o := _) rfl (by kernel_rfl) (fun K hK => ?_)
      rw [if_pos (by rfl)]
      unfold Oper.wpIn
      refine ⟨(fun _ h => by first | trivial | cases h), ?_⟩
      rw [Oper.semAt_eq _ _ _ (fun c h => by cases h)]
      go_simp
      replace hHeld := hHeld.alloc hHeld.size (.cells #[.int .u32 (x : Int)] 23)
      refine hK.out _ _ (fun _ _ => hHeld) ?_
      clear hK K
      try simp only [Act.put, List.getElem_toArray, List.getElem_cons_succ, List.getElem_cons_zero, List.setIfInBounds_toArray, List.set_cons_zero, List.set_cons_succ]
      refine WDI_step (i := 5) (o := _) rfl (by kernel_rfl) (fun K hK => ?_)
      rw [if_pos (by rfl)]
      refine wpIn_append_own _ _ 44 rfl (w.heap.size + 3) 23 i0 (.int .u32 0) 1 4 hu hi hz0 hz1 hz2 rfl (by decide) _ _ _ rfl (ho.drew.alloc _) ⟨W.heap.size, 0, none⟩ 1 1 [.int .u32 (x : Int)] rfl rfl (cell_new1 W.drew _ _ rfl) (by simp [Value.oneCell']) (by unfold maxLen; omega) (by omega) (by simp; omega) ?_
      intro v' w2 hown2 hg2 hnil2
      obtain ⟨g, cap, rfl, hgs⟩ := own_shape hown2 (by omega)
      have hne2 : some w.heap.size ≠ v.ownBlock := fun e => by have := (ho.lt _ e.symm).1; omega
      have cl2 : w2.cell? ⟨w.heap.size, 0, none⟩ = some v := (HU5.l.kept hg2 hne2).cell
      have fl2 : w2.frozen? ⟨w.heap.size, 0, none⟩ = false := (HU5.l.kept hg2 hne2).frozen
      refine hK.out _ _ (fun h => by cases h) ?_
      clear hK K
      try simp only [Act.put, List.getElem_toArray, List.getElem_cons_succ, List.getElem_cons_zero, List.setIfInBounds_toArray, List.set_cons_zero, List.set_cons_succ]
      refine WDI_step (i := 6) (o := _) rfl (by kernel_rfl) (fun K hK => ?_)
      rw [if_pos (by rfl)]
      unfold Oper.wpIn
      refine ⟨(fun _ h => by first | trivial | cases h), ?_⟩
      rw [Oper.semAt_eq _ _ _ (fun c h => by cases h)]
      go_simp
      refine hK.out _ _ (fun h => by cases h) ?_
      clear hK K
      try simp only [Act.put, List.getElem_toArray, List.getElem_cons_succ, List.getElem_cons_zero, List.setIfInBounds_toArray, List.set_cons_zero, List.set_cons_succ]
      refine WDI_done (by kernel_rfl) ?_ _
      have HA := HU5.app hg2 (List.length_map ..).symm hown2
      have HKO := (((KeepsOthers.alloc W (.cells #[.int .u32 (x : Int)] 23)).trans (KeepsOthers.drew _)).trans (KeepsOthers.of_grownBy hg2 (fun j o' hj ho' => row_cells HU5.own hj ho'))).trans (KeepsOthers.setCell w2 ⟨w.heap.size, 0, none⟩ (.slice (some ⟨g, 0, none⟩) (pre.length + 1) cap))
      exact ⟨HKO, _, by rw [HS.out, HU.out]; exact HA⟩
  case done =>
    rintro D W ⟨v, hI⟩ hK hD
    simp only [World.size_alloc] at hD
    have cl := hI.l.cell
    have HI := Lib.hid hI
    clear hI
    gi_wp2
    refine ⟨by simp, .inl ⟨_, _, rfl, run_takeDeferred hK, ?_⟩⟩
    have hk5 : W.heap[D]? = some (.deferred (some [])) := hK
    have hI5 := HI.out.put (show w.heap.size + 3 ≤ D by omega) hk5 rfl (.deferred none)
    refine ⟨v, ?_, v, rfl, hI5.bel, ?_⟩
    · simp [results, Try.f56, go_sem]
    · have h9 := own_le hI5.own (show w.heap.size ≤ w.heap.size + 3 by omega)
      rw [upL_map, HL.out]
      exact h9
end Go.Proofs.Ytpikjahgnnejmaa

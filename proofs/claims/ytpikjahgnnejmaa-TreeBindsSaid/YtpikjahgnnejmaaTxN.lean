/- tree.node. -/
import Derived.Test.YtpikjahgnnejmaaTxB
namespace Go.Proofs.Ytpikjahgnnejmaa
open Go.RowKit Go.Shelf
attribute [local go_sem] Oper.semAt_some
set_option linter.unusedVariables false
set_option linter.unusedSimpArgs false
theorem lastSum_append : ∀ (A B : List (Option (List Nat))) (h : Nat), lastSum h (A ++ B) = lastSum (lastSum h A) B
  | [], B, h => rfl
  | none :: A, B, h => lastSum_append A B h
  | some x :: A, B, h => lastSum_append A B (sumN x)
theorem lastSum_none : ∀ (A : List (Option (List Nat))) (h : Nat), (∀ t ∈ A, t = none) → lastSum h A = h
  | [], h, _ => rfl
  | none :: A, h, ha => lastSum_none A h fun t ht => ha t (by simp [ht])
  | some x :: A, h, ha => by have := ha (some x) (by simp); cases this
theorem lastSum_at {L : List (Option (List Nat))} {k : Nat} {xs : List Nat} (hk : L[k]? = some (some xs)) (hn : ∀ j, k < j → j < L.length → L[j]? = some none) (h : Nat) : lastSum h L = sumN xs := by
  have hlt : k < L.length := (List.getElem?_eq_some_iff.1 hk).1
  have e : L = L.take k ++ some xs :: L.drop (k + 1) := by
    have h1 := List.take_append_drop k L
    rw [List.drop_eq_getElem_cons hlt] at h1
    have h2 : L[k] = some xs := (List.getElem?_eq_some_iff.1 hk).2
    rw [h2] at h1
    exact h1.symm
  have h3 : lastSum (sumN xs) (L.drop (k + 1)) = sumN xs := lastSum_none _ _ fun t ht => by
    obtain ⟨i, hi, rfl⟩ := List.mem_iff_getElem.1 ht
    rw [List.length_drop] at hi
    have h4 := hn (k + 1 + i) (by omega) (by omega)
    rw [List.getElem_drop]
    exact (List.getElem?_eq_some_iff.1 h4).2
  conv => lhs; rw [e]
  rw [lastSum_append]
  exact h3
theorem lastSum_all {L : List (Option (List Nat))} (hn : ∀ j, j < L.length → L[j]? = some none) (h : Nat) : lastSum h L = h := lastSum_none _ _ fun t ht => by
  obtain ⟨i, hi, rfl⟩ := List.mem_iff_getElem.1 ht
  exact (List.getElem?_eq_some_iff.1 (hn i hi)).2
/-- the world while node runs -/
structure NdI (w : World) (g n cap : Nat) (z : Nat) (W : World) : Prop where
  bel : Below w.heap.size w W
  r : Boxed W w.heap.size 23 (.int .u32 z)
  s : Boxed W (w.heap.size + 1) 42 (.slice (some ⟨g, 0, none⟩) n cap)
theorem NdI.alloc {w W : World} {g n cap z : Nat} (h : NdI w g n cap z W) (x : Obj) : NdI w g n cap z (W.alloc x) := ⟨h.bel.alloc h.bel.size x, h.r.alloc x, h.s.alloc x⟩
theorem NdI.drew {w W : World} {g n cap z : Nat} (h : NdI w g n cap z W) : NdI w g n cap z W.drew := ⟨h.bel.drew, h.r, h.s⟩
theorem NdI.put {w W : World} {g n cap z : Nat} (h : NdI w g n cap z W) {k : Nat} (hk : w.heap.size + 2 ≤ k) (x : Obj) : NdI w g n cap z (W.putObj k x) :=
  ⟨below_put h.bel (by omega) x, boxed_put h.r (by omega) x, boxed_put h.s (by omega) x⟩
set_option maxRecDepth 20000 in
set_option maxHeartbeats 3200000 in
theorem tree_node (base g cap n : Nat) (vs : List Value) (L : List (Option (List Nat))) (w : World) (h : Txs w base g cap vs L) (hn : L.length = n) (hl : n ≤ 128) :
    Calls Try.prog 44 #[.slice (some ⟨g, 0, none⟩) n cap] w fun e w' => e = .returned (.int .u32 (lastSum 0 L : Nat)) ∧ Below w.heap.size w w' := by
  have hvl := h.len
  have hval : ∀ u ∈ vs, ∃ a m d, u = .slice a m d := fun u hu => by
    obtain ⟨j, hj⟩ := List.getElem?_of_mem hu
    have hjl : j < L.length := by rw [← hvl]; exact (List.getElem?_eq_some_iff.1 hj).1
    have := h.at' j u _ hj (List.getElem?_eq_getElem hjl)
    generalize L[j] = t at this
    cases t with
    | none => exact ⟨_, _, _, this⟩
    | some xs =>
      obtain ⟨g1, c1, e, _⟩ := own_shape this.1 (by have := this.2.1; omega)
      exact ⟨_, _, _, e⟩
  have HIt := Lib.hid fun B => back_texts g cap B vs n (by rw [hvl, hn]) (by omega) hval
  have HT := Lib.hid h
  have HN := Lib.hid hn
  have HVL := Lib.hid hvl
  clear h hn hvl hval
  refine (callsIn_wide (n := 0)).1 ?_
  refine callsIn_of_wp_marks Try.func44 rfl trivial ?_ rfl
  simp only [Try.ntmps44, List.size_toArray, List.length_cons, List.length_nil, Nat.reduceAdd, Nat.reduceSub, Array.replicate_succ, Array.replicate_zero, List.push_toArray, List.append_toArray, List.nil_append, List.cons_append]
  gi_wp2
  refine ⟨trivial, rfl, (callsIn_wide.2 (texts_Backward _ _ _ _)).mono ?_⟩
  rintro e w' ⟨rfl, rfl⟩
  gi_wp2
  refine wp_range_caps (gf := 66) (R := fun W => Boxed W (w.heap.size + 1) 42 (.slice (some ⟨g, 0, none⟩) n cap) ∧ ∀ (j : Nat) (u : Value), vs[j]? = some u → W.cell? ⟨g, j, none⟩ = some u) rfl (enters_of Try.func66 (by kernel_rfl) rfl) (HIt.out _) (fun _ => rfl)
    (fun pre W => NdI w g n cap 0 W ∧ ∀ k ∈ pre, L[k]? = some none)
    (fun pre W => NdI w g n cap (lastSum 0 L) W) ?sal ?spu ?spx ?hR ?sdr ?i0
    (fun k => { tmps := #[.slice (some ⟨g, 0, none⟩) n cap, undef, .pointer (some ⟨w.heap.size, 0, none⟩), undef, vs.getD k undef, .slice (some ⟨g, 0, none⟩) n cap,
      .func (.func 66) #[] #[.pointer (some ⟨w.heap.size + 1, 0, none⟩)], .int .i64 k, vs.getD k undef, undef, undef, undef, undef], defers := [] }) ?assign ?body ?done ?stop
  case sal => exact fun pre W x ⟨h1, h2⟩ => ⟨h1.alloc x, h2⟩
  case spu =>
    simp only [World.size_alloc]
    exact fun pre W k x y hk hy hc ⟨h1, h2⟩ => ⟨h1.put (by omega) x, h2⟩
  case spx =>
    simp only [World.size_alloc]
    exact fun pre W k x y hk hy hc h1 => h1.put (by omega) x
  case hR =>
    rintro pre W ⟨h1, _⟩
    refine ⟨h1.s, fun j u hu => ?_⟩
    have h3 := own_cell HT.out.own hu
    exact (h1.bel.cell (p := ⟨g, j, none⟩) (World.block_lt_of_cell? _ _ h3)).trans h3
  case sdr => exact fun pre W ⟨h1, h2⟩ => ⟨h1.drew, h2⟩
  case i0 =>
    have b0 := Boxed.new w 23 (.int .u32 0)
    have b1 := Boxed.new (w.alloc (.cells #[.int .u32 0] 23)) 42 (.slice (some ⟨g, 0, none⟩) n cap)
    simp only [World.size_alloc] at b1
    exact ⟨⟨((Below.refl _ _).alloc (Nat.le_refl _) _).alloc (by simp) _, b0.alloc _, b1⟩, fun k hk => by cases hk⟩
  case assign =>
    intro l k W K hK
    dsimp only [encT]
    gi_wp2
    exact hK
  case body =>
    rintro l pre k W ⟨hI, hnone⟩ hpre
    obtain ⟨hk, hall⟩ := rev_pre hpre
    obtain ⟨u, hu⟩ : ∃ u, vs[k]? = some u := ⟨_, List.getElem?_eq_getElem (by rw [HVL.out, HN.out]; exact hk)⟩
    obtain ⟨t, ht⟩ : ∃ t, L[k]? = some t := ⟨_, List.getElem?_eq_getElem (by rw [HN.out]; exact hk)⟩
    have hat := HT.out.at' k u t hu ht
    have hgd : vs.getD k undef = u := by rw [List.getD_eq_getElem?_getD, hu]; rfl
    rw [hgd]
    have HI := Lib.hid hI
    have c0 := hI.r.cell
    have f0 := hI.r.frozen
    have HNO := Lib.hid hnone
    cases t with
    | none =>
      have e0 : u = .slice none 0 0 := hat
      subst e0
      have HTK := Lib.hid ht
      clear hI hnone hpre hall hu ht hat hgd
      gi_wp2
      refine ⟨KeepsOthers.refl _, HI.out, fun j hj => ?_⟩
      rcases List.mem_append.1 hj with h | h
      · exact HNO.out j h
      · rw [List.mem_singleton.1 h]; exact HTK.out
    | some xs =>
      obtain ⟨ho, h1, h2, h3⟩ := hat
      obtain ⟨g1, c1, rfl, hg1⟩ := own_shape ho (by omega)
      have HS : Hid (lastSum 0 L = sumN xs) := Lib.hid (lastSum_at ht (fun j j1 j2 => hnone j (hall j j1 (by rw [← HN.out]; exact j2))) 0)
      have HOF := Lib.hid (hash_Of (some ⟨g1, 0, none⟩) c1 xs W ((row_ownB ho).below hI.bel (Nat.le_refl _)) (by omega) h3)
      obtain ⟨m, hm⟩ : ∃ m, xs.length = m := ⟨_, rfl⟩
      rw [hm] at HOF h1 h2 hgd ⊢
      rw [← HS.out] at HOF
      obtain ⟨q, hq⟩ : ∃ q, lastSum 0 L = q := ⟨_, rfl⟩
      rw [hq] at HOF ⊢
      clear hI hnone hpre hall hu ht ho h3 hm hgd hg1 hq HS
      gi_wp2
      refine ⟨trivial, rfl, (CallsIn.inRound l (callsIn_wide.2 HOF.out)).mono ?_⟩
      rintro e w1 ⟨rfl, hb1⟩
      have hI1 : NdI w g n cap 0 w1 := ⟨HI.out.bel.trans (hb1.mono HI.out.bel.size), (hb1.block _ HI.out.r.lt).trans HI.out.r, (hb1.block _ HI.out.s.lt).trans HI.out.s⟩
      have c1 := hI1.r.cell
      have f1 := hI1.r.frozen
      have HI1 := Lib.hid hI1
      have HKB := Lib.hid (keeps_below hb1)
      clear hI1 hb1 c0 f0
      gi_wp2
      exact ⟨HKB.out.trans (KeepsOthers.setCell _ _ _), ⟨HI1.out.bel.setCell (p := ⟨w.heap.size, 0, none⟩) (Nat.le_refl _) _, HI1.out.r.set _, HI1.out.s.other (by omega) _⟩⟩
  case done =>
    rintro D W ⟨hI, hnone⟩ hK hD
    have HLS : Hid (lastSum 0 L = 0) := Lib.hid (lastSum_all (fun j hj => hnone j (by simp; rw [← HN.out]; exact hj)) 0)
    simp only [World.size_alloc] at hD
    have c0 := hI.r.cell
    have f0 := hI.r.frozen
    have HI := Lib.hid hI
    clear hI hnone
    gi_wp2
    have hK2 : (W.setCell ⟨w.heap.size, 0, none⟩ (.int .u32 0)).heap[D]? = some (.deferred (some [])) := (Below.heap_setCell _ _ _ _ (by show D ≠ w.heap.size; omega)).trans hK
    refine ⟨by simp, .inl ⟨_, _, rfl, run_takeDeferred hK2, ?_⟩⟩
    have kc := (boxed_put (HI.out.r.set (.int .u32 0)) (show D ≠ w.heap.size by omega) (.deferred none)).cell
    have kf := (boxed_put (HI.out.r.set (.int .u32 0)) (show D ≠ w.heap.size by omega) (.deferred none)).frozen
    refine ⟨.int .u32 0, ?_, by rw [HLS.out]; rfl, below_put (HI.out.bel.setCell (p := ⟨w.heap.size, 0, none⟩) (Nat.le_refl _) _) (by omega) _⟩
    simp [results, Try.f44, go_sem, kc, kf]
  case stop =>
    rintro D pre W hpre hI hK hD
    simp only [World.size_alloc] at hD
    have c0 := hI.r.cell
    have f0 := hI.r.frozen
    have HI := Lib.hid hI
    clear hI hpre
    gi_wp2
    refine ⟨by simp, .inl ⟨_, _, rfl, run_takeDeferred hK, ?_⟩⟩
    have kc := (boxed_put HI.out.r (show D ≠ w.heap.size by omega) (.deferred none)).cell
    have kf := (boxed_put HI.out.r (show D ≠ w.heap.size by omega) (.deferred none)).frozen
    refine ⟨.int .u32 (lastSum 0 L : Nat), ?_, rfl, below_put HI.out.bel (by omega) _⟩
    simp [results, Try.f44, go_sem, kc, kf]
end Go.Proofs.Ytpikjahgnnejmaa

/- The contract of primes.Divisors. -/
import Derived.Test.YtceocooppjfjjaaPrF
import Derived.Test.YtceocooppjfjjaaDivsL
import Derived.Test.YtceocooppjfjjaaAppK
import Derived.Test.YtceocooppjfjjaaSortP
import Derived.Sort.OwnSortedInts
namespace Go.Proofs.Ytceocooppjfjjaa
open Go.RowKit Go.Shelf Go.Sort
attribute [local go_sem] Oper.semAt_some
set_option linter.unusedVariables false
set_option linter.unusedSimpArgs false
def nats (l : List Nat) : List Value := l.map fun d : Nat => .int .i64 (d : Int)
theorem nats_len (l : List Nat) : (nats l).length = l.length := by simp [nats]
theorem nats_append (a b : List Nat) : nats (a ++ b) = nats a ++ nats b := by simp [nats]
/-- the world while the divisors are laid: the list in its box -/
def DvI (w : World) (xs : List Nat) (W : World) : Prop :=
  w.heap.size + 3 ≤ W.heap.size ∧ Below w.heap.size w W ∧ ∃ g cap, g ≠ w.heap.size + 1 ∧ g ≠ w.heap.size + 1 + 1 ∧ Boxed W (w.heap.size + 1) 31 (.slice (some ⟨g, 0, none⟩) xs.length cap) ∧
    W.ownsRow w.heap.size 2 1 (.slice (some ⟨g, 0, none⟩) xs.length cap) xs.length (nats xs)
theorem DvI.alloc {w W : World} {xs : List Nat} (h : DvI w xs W) (o : Obj) : DvI w xs (W.alloc o) := by
  obtain ⟨hz, hb, g, cap, h1, h2, hx, hr⟩ := h
  exact ⟨by simp; omega, hb.alloc (by omega) o, g, cap, h1, h2, hx.alloc o, hr.alloc o⟩
theorem DvI.put {w W : World} {xs : List Nat} (h : DvI w xs W) {k : Nat} {o o' : Obj} (hk : w.heap.size + 3 ≤ k) (ho : W.heap[k]? = some o') (hc : o'.isCells = false) : DvI w xs (W.putObj k o) := by
  obtain ⟨hz, hb, g, cap, h1, h2, hx, hr⟩ := h
  exact ⟨by simpa [World.putObj] using hz, below_put hb (by omega) o, g, cap, h1, h2, boxed_put hx (by omega) o, ownsRow_putObj hr o ho hc⟩
theorem DvI.set {w W : World} {xs : List Nat} (h : DvI w xs W) (u : Value) : DvI w xs (W.setCell ⟨w.heap.size + 1 + 1, 0, none⟩ u) := by
  obtain ⟨hz, hb, g, cap, h1, h2, hx, hr⟩ := h
  exact ⟨by simpa using hz, hb.setCell (p := ⟨w.heap.size + 1 + 1, 0, none⟩) (by simp; omega) u, g, cap, h1, h2, boxed_other hx (by omega) u, hr.kept (grownBy_setCell' W _ u) (.inr (by simp [Value.ownBlock]; exact h2))⟩
/-- the world within a round for the prime p -/
def DvW (w W : World) (B p k : Nat) (xs : List Nat) (wr : World) : Prop :=
  KeepsOthers W wr ∧ (∀ v, Boxed W (w.heap.size + 1 + 1) 2 v → Boxed wr (w.heap.size + 1 + 1) 2 v) ∧ wr.heap[B]? = some (.cells #[.int .i64 (p : Nat), .int .i64 (k : Nat)] 64) ∧ DvI w xs wr
theorem int64_info : (Try.prog.info? 2).map (fun i => (i.zero, i.size, i.bytes)) = some (some (.int .i64 0), 1, 8) := by kernel_rfl
/-- the cells of the list as it was when the range began -/
def CB (wr : World) (g : Nat) (L : List Nat) : Prop := ∀ (j : Nat) (h : j < L.length), wr.cell? ⟨g, j, none⟩ = some (.int .i64 ((L[j] : Nat) : Int))
theorem CB.of {wr : World} {base g n cap : Nat} {xs L : List Nat} (hr : wr.ownsRow base 2 1 (.slice (some ⟨g, 0, none⟩) n cap) n (nats xs)) (hp : L <+: xs) : CB wr g L := fun j h => by
  have hl := hp.length_le
  have h1 := hr.cells rfl j (.int .i64 ((L[j] : Nat) : Int)) (by
    obtain ⟨t, ht⟩ := hp
    simp only [nats, List.getElem?_map, ← ht, List.getElem?_append_left h, List.getElem?_eq_getElem h, Option.map_some])
  have e : (⟨g, 0, none⟩ : Addr).add j = ⟨g, j, none⟩ := by unfold Addr.add; split <;> simp_all
  rwa [e] at h1
theorem cell_block {W W' : World} {b j : Nat} {v : Value} (h : W.cell? ⟨b, j, none⟩ = some v) (e : b < W.heap.size → W'.heap[b]? = W.heap[b]?) : W'.cell? ⟨b, j, none⟩ = some v := by
  have hb : b < W.heap.size := by
    refine Nat.lt_of_not_le fun hle => ?_
    simp [World.cell?, Array.getElem?_eq_none hle] at h
  simp only [World.cell?, e hb] at h ⊢
  exact h
theorem cell_one_new (w : World) (x : Value) (t : TypeId) : ∀ j u, [x][j]? = some u → (w.alloc (.cells #[x] t)).cell? ((⟨w.heap.size, 0, none⟩ : Addr).add j) = some u := by
  intro j u h
  have hn := World.alloc_heap_new w (.cells #[x] t)
  match j, h with
  | 0, h => rw [show (⟨w.heap.size, 0, none⟩ : Addr).add 0 = ⟨w.heap.size, 0, none⟩ from rfl]; simp only [World.cell?]; rw [hn]; simpa using h
theorem DvW.step {w W wr w3 : World} {B p k g cap g' cap' : Nat} {xs : List Nat} {d : Nat} {o : Obj} (hw : DvW w W B p k xs wr) (n1 : g ≠ w.heap.size + 1) (n2 : g ≠ w.heap.size + 1 + 1)
    (hr : wr.ownsRow w.heap.size 2 1 (.slice (some ⟨g, 0, none⟩) xs.length cap) xs.length (nats xs))
    (hown : w3.ownsRow w.heap.size 2 1 (.slice (some ⟨g', 0, none⟩) (xs.length + 1) cap') (xs.length + 1) (nats xs ++ [.int .i64 (d : Nat)]))
    (hc : (g' = g ∧ (wr.alloc o).grownBy w3 (some g)) ∨ ((wr.alloc o).heap.size ≤ g' ∧ (wr.alloc o).grownBy w3 none)) :
    DvW w W B p k (xs ++ [d]) (w3.setCell ⟨w.heap.size + 1, 0, none⟩ (.slice (some ⟨g', 0, none⟩) (xs.length + 1) cap')) ∧
      ∀ g0 L, CB wr g0 L → g0 ≠ w.heap.size + 1 → L <+: xs → CB (w3.setCell ⟨w.heap.size + 1, 0, none⟩ (.slice (some ⟨g', 0, none⟩) (xs.length + 1) cap')) g0 L := by
  obtain ⟨hk, hbn, hB, hz, hbel, _, _, _, _, hx, _⟩ := hw
  obtain ⟨hgs, hgb⟩ : w.heap.size ≤ g ∧ ∃ cur, wr.heap[g]? = some (.cells cur 2 (0, 0)) := by
    rcases hr.2 with ⟨e0, _⟩ | ⟨g1, c1, cur, e0, hg, hgb, _⟩
    · cases e0
    · cases e0; exact ⟨hg, cur, hgb⟩
  obtain ⟨cur, hgb⟩ := hgb
  have hgB : g ≠ B := fun e => by rw [e, hB] at hgb; cases hgb
  have hrow : ∃ row, (wr.alloc o).grownBy w3 row ∧ (row = some g ∨ row = none) ∧ g' ≠ w.heap.size + 1 ∧ g' ≠ w.heap.size + 1 + 1 ∧ (row = some g → g' = g) := by
    rcases hc with ⟨rfl, h⟩ | ⟨h1, h⟩
    · exact ⟨_, h, .inl rfl, n1, n2, fun _ => rfl⟩
    · simp only [World.size_alloc] at h1
      exact ⟨_, h, .inr rfl, by omega, by omega, fun e => by cases e⟩
  obtain ⟨row, hg3, hro, m1, m2, m3⟩ := hrow
  have hne : ∀ b, b ≠ g → some b ≠ row := fun b hb e => by
    rcases hro with rfl | rfl
    · exact hb (Option.some.inj e)
    · cases e
  have hz3 : wr.heap.size + 1 ≤ w3.heap.size := by have := hg3.size; simpa using this
  have hBlt := (Array.getElem?_eq_some_iff.1 hB).1
  have hx3 : Boxed w3 (w.heap.size + 1) 31 _ := (hx.alloc o).kept hg3 (hne _ (fun e => n1 e.symm))
  refine ⟨⟨((hk.trans (KeepsOthers.alloc wr o)).trans (KeepsOthers.of_grownBy hg3 fun j o' hj ho => ?_)).trans (KeepsOthers.setCell _ _ _), fun v hv => ?_, ?_, by simp; omega, ?_, g', cap', m1, m2, ?_, ?_⟩, fun g0 L hcb h0 hp => ?_⟩
  · rcases hro with rfl | rfl
    · cases hj
      rw [Below.heap_alloc _ _ _ (Array.getElem?_eq_some_iff.1 hgb).1, hgb] at ho
      cases ho; rfl
    · cases hj
  · exact boxed_other (((hbn v hv).alloc o).kept hg3 (hne _ (fun e => n2 e.symm))) (by omega) _
  · rw [Below.heap_setCell _ _ _ _ (by
      intro e
      have e' : B = w.heap.size + 1 := e
      rw [e'] at hB
      have := hx.symm.trans hB; cases this), hg3.block B (by simp; omega) (hne _ (fun e => hgB e.symm)), Below.heap_alloc _ _ _ hBlt]
    exact hB
  · refine ((hbel.alloc (by omega) _).grown hg3 (by simp; omega) fun j e => ?_).setCell (p := ⟨w.heap.size + 1, 0, none⟩) (by simp) _
    rcases hro with rfl | rfl
    · cases e; exact hgs
    · cases e
  · rw [show (xs ++ [d]).length = xs.length + 1 by simp]; exact hx3.set _
  · rw [show (xs ++ [d]).length = xs.length + 1 by simp, nats_append]
    exact hown.kept (grownBy_setCell' w3 _ _) (.inr (by simpa [Value.ownBlock] using m1))
  · have h3 : CB w3 g0 L := by
      by_cases e : g0 = g
      · subst e
        by_cases e2 : g' = g0
        · subst e2
          exact CB.of (xs := xs ++ [d]) (by rw [nats_append]; exact hown) (hp.trans (List.prefix_append _ _))
        · intro j hj
          refine cell_block (hcb j hj) fun hlt => ?_
          rw [hg3.block g0 (by simp; omega) ?_, Below.heap_alloc _ _ _ hlt]
          rcases hro with rfl | rfl
          · exact absurd (m3 rfl) e2
          · simp
      · intro j hj
        refine cell_block (hcb j hj) fun hlt => ?_
        rw [hg3.block g0 (by simp; omega) (hne _ e), Below.heap_alloc _ _ _ hlt]
    intro j hj
    exact cell_block (h3 j hj) fun hlt => Below.heap_setCell _ _ _ _ h0
set_option maxHeartbeats 2000000 in
theorem primes_Divisors_nat (N : Nat) (w : World) (h1 : 1 ≤ N) (h2 : N ≤ 1048576) :
    Calls Try.prog 22 #[.int .i64 N] w fun e w' => ∃ (v : Value) (zs : List Int), e = .returned (.tuple #[v, .int .i64 0]) ∧ Below w.heap.size w w' ∧ zs.Perm ((M.dvs [1] (M.fac N)).map fun d : Nat => (d : Int)) ∧
      w'.ownsRow w.heap.size 2 1 v zs.length (zs.map (Value.int .i64)) := by
  have ho : primes_outB N = false := by simp [primes_outB]; omega
  refine (callsIn_wide (n := 0)).1 ?_
  refine callsIn_of_wp_marks Try.func22 rfl trivial ?_ rfl
  simp only [Try.ntmps22, List.size_toArray, List.length_cons, List.length_nil, Nat.reduceAdd, Nat.reduceSub, Array.replicate_succ, Array.replicate_zero, List.push_toArray, List.append_toArray, List.nil_append, List.cons_append]
  gi_wp2
  refine ⟨trivial, rfl, (callsIn_wide.2 (primes_out _ _)).mono ?_⟩
  rintro e w' ⟨rfl, rfl⟩
  gi_wp2
  refine ⟨trivial, rfl, (callsIn_wide.2 (primes_powers _ _)).mono ?_⟩
  rintro e w' ⟨rfl, rfl⟩
  gi_wp2
  have hB0 : Boxed (((w.alloc (.cells #[.int .i64 1] 2)).alloc (.cells #[.slice (some ⟨w.heap.size, 0, none⟩) 1 1] 31)).alloc (.cells #[.int .i64 N] 2)) (w.heap.size + 1 + 1) 2 (.int .i64 N) := by
    have := Boxed.new ((w.alloc (.cells #[.int .i64 1] 2)).alloc (.cells #[.slice (some ⟨w.heap.size, 0, none⟩) 1 1] 31)) 2 (.int .i64 N)
    simpa only [World.size_alloc] using this
  refine wp_range_box (gf := 60) rfl (enters_of Try.func60 (by kernel_rfl) rfl) (powers_iter N h1 h2) hB0 rfl
    (fun pre W => DvI w (M.dvs [1] pre) W)
    (fun pre W => False) ?st (fun _ _ _ _ _ _ _ _ h => h) ?i0
    (fun x B => { tmps := #[.int .i64 N, undef, .slice none 0 0, .int .i64 0, .pointer (some ⟨w.heap.size + 1, 0, none⟩), .pointer (some ⟨B, 0, none⟩), undef, undef, undef, undef, .int .i64 N, .bool false, .slice (some ⟨w.heap.size, 0, none⟩) 1 1, .int .i64 N,
      .func (.func 60) #[] #[.pointer (some ⟨w.heap.size + 1 + 1, 0, none⟩)], .agg #[.int .i64 x.1, .int .i64 x.2], undef, undef, undef, undef, undef, undef, undef, undef, undef, undef, undef, undef, undef, undef, undef, undef, undef, undef, undef, undef, undef, undef, undef, undef, undef, undef, undef, undef, undef], defers := [] })
    (fun x => .cells #[.int .i64 x.1, .int .i64 x.2] 64) ?assign ?body ?done (fun _ _ _ _ h => h.elim)
  case st =>
    simp only [World.size_alloc]
    exact ⟨fun pre W o h => h.alloc o, fun pre W k o o' hk ho hc h => h.put (by omega) ho hc, fun pre W v h => h.set v⟩
  case i0 =>
    refine ⟨by simp, (((Below.refl _ _).alloc (Nat.le_refl _) _).alloc (by simp) _).alloc (by simp; omega) _, w.heap.size, 1, by omega, by omega, ?_, ?_⟩
    · show Boxed _ _ _ (.slice (some ⟨w.heap.size, 0, none⟩) 1 1)
      have := (Boxed.new (w.alloc (.cells #[.int .i64 1] 2)) 31 (.slice (some ⟨w.heap.size, 0, none⟩) 1 1)).alloc (.cells #[.int .i64 N] 2)
      simpa only [World.size_alloc] using this
    · refine ⟨rfl, .inr ⟨w.heap.size, 1, #[.int .i64 1], rfl, Nat.le_refl _, ?_, by decide, by decide, by decide, rfl⟩⟩
      have h0 := World.alloc_heap_new w (.cells #[.int .i64 1] 2)
      rw [Below.heap_alloc _ _ _ (by simp; omega), Below.heap_alloc _ _ _ (by simp), h0]
  case assign =>
    intro l x W K hK
    dsimp only [encP]
    gi_wp2
    exact hK
  case body =>
    rintro l B pre x W hI hpre hbox hBk
    simp only [World.size_alloc] at hBk
    obtain ⟨bl, bd⟩ := M.round_bounds h1 hpre
    obtain ⟨p, k⟩ := x
    simp only at bl bd hbox
    obtain ⟨L, hL⟩ : ∃ L, L = M.dvs [1] pre := ⟨_, rfl⟩
    have hone := M.one_mem pre
    have HF : Hid (∀ W', DvI w (M.part L p k) W' → DvI w (M.dvs [1] (pre ++ [(p, k)])) W') := Lib.hid fun W' h => by rw [M.dvs_snoc, ← M.part_all, ← hL]; exact h
    rw [← hL] at hI bl bd hone
    have h0 : 0 < L.length := List.length_pos_of_mem hone
    have hk20 : k + 1 ≤ 1048576 := Nat.le_trans (Nat.le_mul_of_pos_left _ h0) (Nat.le_trans bl h2)
    have hl20 : L.length ≤ 1048576 := Nat.le_trans (Nat.le_mul_of_pos_right _ (by omega)) (Nat.le_trans bl h2)
    have hI0 := hI
    obtain ⟨hz, hb, g, cap, n1, n2, hx, hr⟩ := hI
    have c1 := hx.cell
    have f1 := hx.frozen
    have d0 : W.cell? ⟨B, 0, none⟩ = some (.int .i64 p) := by simp [World.cell?, hbox]
    have d1 : W.cell? ⟨B, 1, none⟩ = some (.int .i64 k) := by simp [World.cell?, hbox]
    have BL := Lib.hid bl
    have BD := Lib.hid bd
    have H1 := Lib.hid hone
    have HI := Lib.hid hI0
    have HB := Lib.hid hbox
    clear bl bd hone hI0 hb hx hr hL hpre ho hB0 hbox
    have HW0 : Hid (DvW w W B p k (M.part L p 0) W) := Lib.hid ⟨KeepsOthers.refl W, fun v hv => hv, HB.out, by rw [M.part_zero]; exact HI.out⟩
    gi_wp2
    gi_loopw [7, 20] (fun q j wr => ∃ J : Nat, q = .int .i64 ((p ^ J : Nat) : Int) ∧ j = .int .i64 (J : Int) ∧ J ≤ k ∧ DvW w W B p k (M.part L p J) wr) (fun _ j _ => k - (intOf j).toNat)
    case atStart => exact ⟨0, by simp, rfl, Nat.zero_le _, HW0.out⟩
    case round =>
      obtain ⟨J, rfl, rfl, hJ, hw⟩ := hrel
      clear HW0 c1 f1 d0 d1 HI HB n1 n2 hz
      by_cases hJk : J < k
      · have hw0 := hw
        obtain ⟨hko, hbn, hB, hz, hbel, g, cap, n1, n2, hx, hr⟩ := hw
        have c1 := hx.cell
        have d0 : wr.cell? ⟨B, 0, none⟩ = some (.int .i64 p) := by simp [World.cell?, hB]
        have hcap : L.length ≤ cap := by
          have h5 := M.part_len L p J
          have h6 : L.length ≤ L.length * (J + 1) := Nat.le_mul_of_pos_right _ (by omega)
          rcases hr.2 with ⟨e0, _⟩ | ⟨g1, cap1, cur, e0, _, _, r1, _⟩
          · cases e0
          · cases e0; omega
        have hCB : CB wr g L := CB.of hr (M.part_prefix L p J)
        have hpq : p ^ (J + 1) ≤ 1048576 := by have := BD.out 1 H1.out (J + 1) (by omega); omega
        obtain ⟨q, hq⟩ : ∃ q : Nat, q = p ^ J := ⟨_, rfl⟩
        obtain ⟨r, hrq⟩ : ∃ r : Nat, r = p ^ (J + 1) := ⟨_, rfl⟩
        have hqi : (q : Int) * (p : Int) = (r : Int) := by rw [hrq, hq, Nat.pow_succ, Int.natCast_mul]
        rw [← hrq] at hpq
        rw [← hq]
        have HQ := Lib.hid hrq
        have HQI := Lib.hid hqi
        have hb1 : (q : Int) * (p : Int) ≤ 1048576 := by rw [hqi]; omega
        have hb0 : 0 ≤ (q : Int) * (p : Int) := by rw [hqi]; omega
        have HW := Lib.hid hw0
        have HC := Lib.hid hCB
        clear hko hbn hB hbel hx hr hw0 hq hrq hqi hCB
        gi_wp2
        rw [HQI.out]
        clear hb1 hb0 HQI c1 d0 hz
        have HW1 : Hid (DvW w W B p k (M.part L p J ++ (L.take 0).map fun d => d * r) wr) := Lib.hid (by simpa using HW.out)
        obtain ⟨wo, hwo⟩ : ∃ wo : World, wo = wr := ⟨_, rfl⟩
        rw [← hwo] at HC HW HW1 ⊢
        clear hwo wr
        gi_loopw [30] (fun i w2 => ∃ I : Nat, i = .int .i64 (I : Int) ∧ I ≤ L.length ∧ DvW w W B p k (M.part L p J ++ (L.take I).map fun d => d * r) w2 ∧ CB w2 g L) (fun i _ => L.length - (intOf i).toNat)
        case atStart => exact ⟨0, rfl, Nat.zero_le _, HW1.out, HC.out⟩
        case round =>
          obtain ⟨I, rfl, hI, hw, hcb⟩ := hrel
          clear HW HW1 HC
          by_cases hIl : I < L.length
          · have hw0 := hw
            have ⟨_, _, _, hz, hbel, g2, cap2, m1, m2, hx, hr⟩ := hw
            have c1 := hx.cell
            have f1 := hx.frozen
            have d1 := hcb I hIl
            obtain ⟨d, hd⟩ : ∃ d : Nat, d = L[I] := ⟨_, rfl⟩
            have hmem : d ∈ L := hd ▸ List.getElem_mem hIl
            have hdr := BD.out d hmem (J + 1) (by omega)
            rw [← HQ.out] at hdr
            have hxs : (M.part L p J ++ (L.take I).map fun d => d * r).length ≤ 1048576 := by
              have h5 := M.part_len L p J
              have h6 := BL.out
              have h7 : L.length * (J + 1) + L.length ≤ L.length * (k + 1) := by
                rw [← Nat.mul_succ]; exact Nat.mul_le_mul_left _ (by omega)
              simp; omega
            have hnext : M.part L p J ++ ((L.take (I + 1)).map fun d => d * r) = (M.part L p J ++ (L.take I).map fun d => d * r) ++ [d * r] := by
              rw [List.take_succ_eq_append_getElem hIl, ← hd]; simp
            have hpx : L <+: (M.part L p J ++ (L.take I).map fun d => d * r) := (M.part_prefix L p J).trans (List.prefix_append _ _)
            obtain ⟨xs, hxsd⟩ : ∃ xs, xs = (M.part L p J ++ (L.take I).map fun d => d * r) := ⟨_, rfl⟩
            rw [← hd] at d1
            rw [← hxsd] at hw0 hx hr c1 hxs hnext hpx
            have d1' : wr.cell? ⟨g, 0 + I, none⟩ = some (.int .i64 (d : Int)) := by rw [Nat.zero_add]; exact d1
            have hdi : (d : Int) * (r : Int) = ((d * r : Nat) : Int) := (Int.natCast_mul d r).symm
            have b1 : (d : Int) * (r : Int) ≤ 1048576 := by rw [hdi]; omega
            have b0 : 0 ≤ (d : Int) * (r : Int) := by rw [hdi]; omega
            have HDI := Lib.hid hdi
            have HN := Lib.hid hnext
            have HP := Lib.hid hpx
            have HW := Lib.hid hw0
            have HC := Lib.hid hcb
            have HX := Lib.hid hx
            clear hw hw0 hcb hdi hnext hpx hxsd hd hmem hx
            gi_wp2_with (first
              | (gi_at_builtin
                 obtain ⟨i0, hi, hz0, hz1, hz2⟩ := info_parts int64_info
                 refine wpListIn_append_keep rfl _ _ 31 rfl w.heap.size 2 i0 (.int .i64 0) 1 8 (by kernel_rfl) hi hz0 hz1 hz2 rfl (by decide) g2 xs.length cap2 (nats xs) rfl (hr.alloc _) ⟨wr.heap.size, 0, none⟩ 1 1 [.int .i64 ((d : Int) * (r : Int))] rfl rfl (cell_one_new _ _ _) (by simp [Value.oneCell']) (by decide) (Nat.le_trans (Nat.add_le_add_right hxs 1) (by decide)) (by omega) (by simp; omega) ?_
                 clear hi hz0 hz1 hz2
                 intro g' cap' w3 hown' hc3
                 rw [HDI.out] at hown' hc3
                 have HS := Lib.hid (HW.out.step m1 m2 hr hown' hc3)
                 have hx3 : Boxed w3 (w.heap.size + 1) 31 (.slice (some ⟨g2, 0, none⟩) xs.length cap2) := by
                   rcases hc3 with ⟨_, hg3⟩ | ⟨_, hg3⟩
                   · exact (HX.out.alloc _).kept hg3 (by simpa using fun e : w.heap.size + 1 = g2 => m1 e.symm)
                   · exact (HX.out.alloc _).kept hg3 (by simp)
                 have c3 := hx3.cell
                 have f3 := hx3.frozen
                 clear hx3 hown' hc3 hr c1 f1 d1 d1'
                 go_frame))
            go_roundw
            case rel =>
              refine ⟨I + 1, by go_num, by omega, ?_, HS.out.2 g L HC.out n1 HP.out⟩
              rw [HN.out]; exact HS.out.1
            case measure => simp [intOf]; omega
          · have e : I = L.length := by omega
            subst e
            rw [List.take_length, HQ.out, ← M.part_succ] at hw
            have HW := Lib.hid hw
            clear hw hcb
            gi_wp2
            go_roundw
            case rel => exact ⟨J + 1, by rw [HQ.out], by go_num, by omega, HW.out⟩
            case measure => simp [intOf]; omega
      · have e : J = k := by omega
        subst e
        have HW := Lib.hid hw
        clear hw
        gi_wp2
        exact ⟨HW.out.1, HW.out.2.1, HF.out _ HW.out.2.2.2⟩
  case done =>
    rintro D W hI hK hD
    simp only [World.size_alloc] at hD
    obtain ⟨hz, hb, g, cap, n1, n2, hx, hr⟩ := hI
    have c1 := hx.cell
    have f1 := hx.frozen
    have hlen : (M.dvs [1] (M.fac N)).length ≤ 1048576 := by have := M.dvs_len (M.fac_spec h1) [1]; simp at this; omega
    have h0 : 0 < (M.dvs [1] (M.fac N)).length := List.length_pos_of_mem (M.one_mem _)
    have hro := hr
    rcases hr.2 with ⟨e0, _⟩ | ⟨g', cap', cur, e0, hg, hgb, r1, r2, r3, r4⟩
    · cases e0
    cases e0
    obtain ⟨ys, hys⟩ : ∃ ys : List Int, ys = (M.dvs [1] (M.fac N)).map fun d : Nat => (d : Int) := ⟨_, rfl⟩
    have hyl : ys.length = (M.dvs [1] (M.fac N)).length := by rw [hys, List.length_map]
    have hyn : nats (M.dvs [1] (M.fac N)) = ys.map (Value.int .i64) := by rw [hys, List.map_map]; rfl
    have hgl : g < W.heap.size := (Array.getElem?_eq_some_iff.1 hgb).1
    have HS := Lib.hid (slices_SortL g 0 cap ys W (holds_of_blockI hgb (by rw [← hyn, ← r4, hyl, Nat.mul_one])) hgl (by omega))
    have HY := Lib.hid hys
    have HB := Lib.hid hb
    have HX := Lib.hid hx
    have HG := Lib.hid hgb
    rw [← hyl] at c1 r1 h0
    clear hr hro r4 hyn hys hb hx hgb hyl hlen
    have hgD : g ≠ D := fun e => by rw [e] at HG; have := HG.out.symm.trans hK; cases this
    gi_wp2
    refine ⟨trivial, rfl, (callsIn_wide.2 HS.out).mono ?_⟩
    rintro e w' ⟨rfl, nn, os, rfl⟩
    have hgr : W.grownBy (grow (putRow (Value.int .i64) (Sort.ahead W nn) g 0 (ys.mergeSort fun x y => decide (x ≤ y)).toArray) os) (some g) := grownBy_sortedI _
    have hrow : (grow (putRow (Value.int .i64) (Sort.ahead W nn) g 0 (ys.mergeSort fun x y => decide (x ≤ y)).toArray) os).ownsRow w.heap.size 2 1 (.slice (some ⟨g, 0, none⟩) ys.length cap) ys.length ((ys.mergeSort fun x y => decide (x ≤ y)).map (Value.int .i64)) :=
      ownsRow_sortedI (by simp) hg HG.out r1 r2 r3
    obtain ⟨w1, hw1⟩ : ∃ w1, w1 = grow (putRow (Value.int .i64) (Sort.ahead W nn) g 0 (ys.mergeSort fun x y => decide (x ≤ y)).toArray) os := ⟨_, rfl⟩
    rw [← hw1] at hgr hrow ⊢
    clear hw1
    have hx1 := HX.out.kept hgr (by simpa using fun e : w.heap.size + 1 = g => n1 e.symm)
    have hK1 : w1.heap[D]? = some (.deferred (some [])) := (hgr.block D (Array.getElem?_eq_some_iff.1 hK).1 (by simpa using fun e : D = g => hgD e.symm)).trans hK
    have hb1 := HB.out.grown hgr (by omega) fun k e => by cases e; exact hg
    have HL : Hid ((M.dvs [1] (M.fac N)).length = ys.length) := Lib.hid (by rw [HY.out]; simp)
    rw [HL.out] at hx1
    have c2 := hx1.cell
    have HR := Lib.hid hrow
    have HB1 := Lib.hid hb1
    clear hrow hb1 hx1 hgr
    gi_wp2
    refine ⟨by simp, .inl ⟨_, _, rfl, run_takeDeferred hK1, ?_⟩⟩
    have e1 : ys.length = (ys.mergeSort fun x y => decide (x ≤ y)).length := by simp
    refine ⟨.tuple #[.slice (some ⟨g, 0, none⟩) ys.length cap, .int .i64 0], ?_, _, ys.mergeSort fun x y => decide (x ≤ y), rfl, below_put HB1.out (by omega) _, ?_, ?_⟩
    · simp [results, Try.f22, go_sem]
    · rw [← HY.out]; exact List.mergeSort_perm _ _
    · rw [← e1]; exact ownsRow_putObj HR.out _ hK1 rfl
end Go.Proofs.Ytceocooppjfjjaa

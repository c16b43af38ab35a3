/- pratt.Make of a prime. -/
import Derived.Test.YtceocooppjfjjaaMake
namespace Go.Proofs.Ytceocooppjfjjaa
open Go.RowKit Go.Maps Go.WideMaps
set_option linter.unusedVariables false
set_option linter.unusedSimpArgs false
theorem alloc_below (w : World) (o : Obj) : Below w.heap.size w (w.alloc o) := (Below.refl _ _).alloc (Nat.le_refl _) _
theorem own_ne {W : World} {b1 b2 n1 n2 s1 s2 : Nat} {e1 e2 : TypeId} {v1 v2 : Value} {xs ys : List Value} (he : e1 ≠ e2) (h1 : W.ownsRow b1 e1 s1 v1 n1 xs) (h2 : W.ownsRow b2 e2 s2 v2 n2 ys) : v1.ownBlock = none ∨ v1.ownBlock ≠ v2.ownBlock := by
  rcases h1.2 with ⟨rfl, _⟩ | ⟨g, cap, cur, rfl, _, hg, _⟩
  · exact .inl rfl
  · right
    rcases h2.2 with ⟨rfl, _⟩ | ⟨g', cap', cur', rfl, _, hg', _⟩
    · simp [Value.ownBlock]
    · simp only [Value.ownBlock]
      intro e
      obtain rfl : g = g' := Option.some.inj e
      rw [hg] at hg'
      injection Option.some.inj hg' with _ h3
      exact he h3
theorem own_grown {W W' : World} {row : Option Nat} {base n s : Nat} {e : TypeId} {v : Value} {xs : List Value} (h : W.ownsRow base e s v n xs) (hg : W.grownBy W' row) (hne : v.ownBlock = none ∨ v.ownBlock ≠ row) : W'.ownsRow base e s v n xs := by
  refine ⟨h.1, ?_⟩
  rcases h.2 with h | ⟨g, cap, cur, rfl, h2, h3, h4⟩
  · exact .inl h
  · refine .inr ⟨g, cap, cur, rfl, h2, (hg.block g (Array.getElem?_eq_some_iff.1 h3).1 ?_).trans h3, h4⟩
    rcases hne with hne | hne
    · simp [Value.ownBlock] at hne
    · simpa [Value.ownBlock] using hne
theorem own_setfar {W : World} {base n s : Nat} {e : TypeId} {v : Value} {xs : List Value} (h : W.ownsRow base e s v n xs) {b o : Nat} (hb : b < base) (u : Value) : (W.setCell ⟨b, o, none⟩ u).ownsRow base e s v n xs := by
  refine ⟨h.1, ?_⟩
  rcases h.2 with h | ⟨g, cap, cur, rfl, h2, h3, h4⟩
  · exact .inl h
  · exact .inr ⟨g, cap, cur, rfl, h2, (Below.heap_setCell _ _ _ _ (show g ≠ b by omega)).trans h3, h4⟩
theorem cells_new (w : World) (vs : Array Value) (T : TypeId) (j : Nat) (u : Value) (h : vs[j]? = some u) : (w.alloc (.cells vs T)).cell? ((⟨w.heap.size, 0, none⟩ : Addr).add j) = some u := by
  have hn := World.alloc_heap_new w (.cells vs T)
  rw [add_at]
  simp only [World.cell?]; rw [hn]; simpa using h
abbrev Item := M.Ln × (Option Addr × Nat)
def itV (items : List Item) : List Value := items.flatMap fun y => [.int .i64 y.1.n, .int .i64 y.1.g, .slice y.2.1 y.1.src.length y.2.2]
theorem itV_snoc (items : List Item) (y : Item) : itV (items ++ [y]) = itV items ++ [.int .i64 y.1.n, .int .i64 y.1.g, .slice y.2.1 y.1.src.length y.2.2] := by simp [itV]
theorem itV_at : ∀ (items : List Item) (i : Nat) (y : Item), items[i]? = some y → (itV items)[i * 3 + 0]? = some (.int .i64 y.1.n) ∧ (itV items)[i * 3 + 1]? = some (.int .i64 y.1.g) ∧ (itV items)[i * 3 + 2]? = some (.slice y.2.1 y.1.src.length y.2.2)
  | [], i, y, h => by simp at h
  | x :: t, 0, y, h => by simp at h; subst h; exact ⟨rfl, rfl, rfl⟩
  | x :: t, i + 1, y, h => by
    have ih := itV_at t i y (by simpa using h)
    have e1 : (i + 1) * 3 = i * 3 + 1 + 1 + 1 := by omega
    rw [e1]
    exact ih
theorem itV_len (items : List Item) : (itV items).length = items.length * 3 := by
  induction items with
  | nil => rfl
  | cons x t ih => simp [itV] at ih ⊢; omega
structure Items (W : World) (base : Nat) (all : List Int) (items : List Item) : Prop where
  ok : ∀ i y, items[i]? = some y → LineOk all i y.1
  row : ∀ y ∈ items, W.ownsRow base 3 1 (.slice y.2.1 y.1.src.length y.2.2) y.1.src.length (inV y.1.src)
theorem Items.nil (W : World) (base : Nat) (all : List Int) : Items W base all [] := ⟨fun i y h => by simp at h, fun y h => by simp at h⟩
theorem Items.keep {W W' : World} {base : Nat} {all : List Int} {items : List Item} (h : Items W base all items) (hb : Below W.heap.size W W') : Items W' base all items := ⟨h.ok, fun y hy => own_keep (h.row y hy) hb⟩
theorem make_step {W5 W6 w7 : World} {base I mm : Nat} {all : List Int} {items : List Item} {lv : Value} {x : M.Ln} {af : Option Addr} {cf : Nat} (hb : Below W5.heap.size W5 W6) (hg : W6.grownBy w7 lv.ownBlock) (ho : W5.ownsRow base 43 3 lv I (itV items)) (hi : Items W5 base all items) (hl : items.length = I)
    (hsl : (srcOf all x.n.toNat).length = mm) (hf : W5.ownsRow base 3 1 (.slice af mm cf) mm (inV (srcOf all x.n.toNat))) (hx : LineOk all I x) : Items w7 base all (items ++ [(x, (af, cf))]) := by
  have up : ∀ {v : Value} {k : Nat} {xs : List Value}, W5.ownsRow base 3 1 v k xs → w7.ownsRow base 3 1 v k xs := fun {v k xs} h => own_grown (own_keep h hb) hg (own_ne (by decide) h ho)
  have hsrc : x.src = srcOf all x.n.toNat := by
    obtain ⟨p, _, h2, h3, _⟩ := hx.ex
    rw [h3, h2, Int.toNat_natCast]
  refine ⟨fun i y h => ?_, fun y hy => ?_⟩
  · by_cases e : i < items.length
    · rw [List.getElem?_append_left e] at h
      exact hi.ok i y h
    · rw [List.getElem?_append_right (by omega)] at h
      have : i - items.length = 0 := by
        rcases Nat.eq_zero_or_pos (i - items.length) with e0 | e0
        · exact e0
        · rw [List.getElem?_eq_none (by simp; omega)] at h; cases h
      rw [this] at h
      obtain rfl : (x, (af, cf)) = y := Option.some.inj h
      obtain rfl : i = I := by omega
      exact hx
  · rcases List.mem_append.1 hy with h | h
    · exact up (hi.row y h)
    · rw [List.mem_singleton.1 h]
      show w7.ownsRow base 3 1 (.slice af x.src.length cf) x.src.length (inV x.src)
      rw [hsrc, hsl]
      exact up hf
theorem own_rowLe {W : World} {base k c : Nat} {a : Option Addr} {e : TypeId} {xs : List Int} (h : W.ownsRow base e 1 (.slice a k c) k (inV xs)) : RowL W a c xs := by
  have hl := own_len h
  rw [inV_len] at hl
  rcases h.2 with ⟨h1, h2⟩ | ⟨g, cap, cur, h1, h2, h3, h4, h5, h6, h7⟩
  · injection h1 with e1 e2 e3
    subst e1 e3
    have : xs = [] := List.eq_nil_of_length_eq_zero (by omega)
    subst this
    exact RowL.nil W
  · injection h1 with e1 e2 e3
    subst e1 e3
    refine ⟨(fun e => by cases e), fun ad e j u hu => ?_, by omega⟩
    cases e
    rw [add_at]
    exact own_cell h hu
theorem items_rowN {W : World} {base base2 I : Nat} {all : List Int} {items : List Item} {lv : Value} (ho : W.ownsRow base2 43 3 lv I (itV items)) (hl : items.length = I) (hi : Items W base all items) :
    ∃ a c, lv = .slice a I c ∧ RowN W a (fun i => (items.getD i default).2) (items.map (·.1)) := by
  have key : ∀ (a : Option Addr) (c : Nat), lv = .slice a I c → (a = none → items = []) → (∀ ad, a = some ad → ∀ (j : Nat) (u : Value), (itV items)[j]? = some u → W.cell? (ad.add j) = some u) → RowN W a (fun i => (items.getD i default).2) (items.map (·.1)) := fun a c _ hn hc => by
    refine ⟨fun e => by rw [hn e]; rfl, fun ad e i x hx => ?_, fun i x hx => ?_⟩
    · rw [List.getElem?_map] at hx
      obtain ⟨y, hy, rfl⟩ := Option.map_eq_some_iff.1 hx
      obtain ⟨k0, k1, k2⟩ := itV_at items i y hy
      have hgd : items.getD i default = y := by rw [List.getD_eq_getElem?_getD, hy]; rfl
      rw [hgd]
      exact ⟨hc ad e _ _ k0, hc ad e _ _ k1, hc ad e _ _ k2⟩
    · rw [List.getElem?_map] at hx
      obtain ⟨y, hy, rfl⟩ := Option.map_eq_some_iff.1 hx
      have hgd : items.getD i default = y := by rw [List.getD_eq_getElem?_getD, hy]; rfl
      rw [hgd]
      exact own_rowLe (hi.row y (List.mem_of_getElem? hy))
  rcases ho.2 with ⟨h1, h2⟩ | ⟨g, cap, cur, h1, h2, h3, h4, h5, h6, h7⟩
  · have : items = [] := List.eq_nil_of_length_eq_zero (by have := ho.1; rw [itV_len, h2] at this; omega)
    refine ⟨none, 0, by rw [h1, h2], key none 0 (by rw [h1, h2]) (fun _ => this) (fun ad e => by cases e)⟩
  · refine ⟨_, cap, h1, key _ cap h1 (fun e => by cases e) fun ad e j u hu => ?_⟩
    cases e
    rw [add_at]
    have hi : j < (itV items).length := (List.getElem?_eq_some_iff.1 hu).1
    have hl := ho.1
    rw [← h7, List.getElem?_take, if_pos (by omega)] at hu
    simp only [World.cell?]; rw [h3]; simpa using hu
/-- the line under way -/
structure Bx (W : World) (xb : Nat) (p g : Int) (fv : Value) : Prop where
  c0 : W.cell? ⟨xb, 0, none⟩ = some (.int .i64 p)
  c1 : W.cell? ⟨xb, 1, none⟩ = some (.int .i64 g)
  c2 : W.cell? ⟨xb, 2, none⟩ = some fv
  f1 : W.frozen? ⟨xb, 1, none⟩ = false
  f2 : W.frozen? ⟨xb, 2, none⟩ = false
theorem Bx.belowB {W W' : World} {xb : Nat} {p g : Int} {fv : Value} (h : Bx W xb p g fv) (hb : Below (xb + 1) W W') : Bx W' xb p g fv := by
  have hl : xb < xb + 1 := Nat.lt_succ_self _
  exact ⟨(hb.cell (p := ⟨xb, 0, none⟩) hl).trans h.c0, (hb.cell (p := ⟨xb, 1, none⟩) hl).trans h.c1, (hb.cell (p := ⟨xb, 2, none⟩) hl).trans h.c2, (hb.frozen (p := ⟨xb, 1, none⟩) hl).trans h.f1, (hb.frozen (p := ⟨xb, 2, none⟩) hl).trans h.f2⟩
theorem set_other {W : World} {xb i j : Nat} {u : Value} (h : i ≠ j) : (W.setCell ⟨xb, i, none⟩ u).cell? ⟨xb, j, none⟩ = W.cell? ⟨xb, j, none⟩ := by
  have hne : (⟨xb, i, none⟩ : Addr) ≠ ⟨xb, j, none⟩ := fun e => h (by injection e)
  rw [World.cell?_setCell_other (a := (⟨xb, i, none⟩ : Addr)) (b := (⟨xb, j, none⟩ : Addr)) (h := hne)]
theorem Bx.setF {W : World} {xb : Nat} {p g : Int} {fv : Value} (h : Bx W xb p g fv) (v : Value) : Bx (W.setCell ⟨xb, 2, none⟩ v) xb p g v :=
  ⟨(set_other (by decide)).trans h.c0, (set_other (by decide)).trans h.c1, World.cell?_setCell_same' _ _ _ (by simp [h.c2]), by rw [World.frozen?_setCell]; exact h.f1, by rw [World.frozen?_setCell]; exact h.f2⟩
theorem Bx.setG {W : World} {xb : Nat} {p g : Int} {fv : Value} (h : Bx W xb p g fv) (g' : Int) : Bx (W.setCell ⟨xb, 1, none⟩ (.int .i64 g')) xb p g' fv :=
  ⟨(set_other (by decide)).trans h.c0, World.cell?_setCell_same' _ _ _ (by simp [h.c1]), (set_other (by decide)).trans h.c2, by rw [World.frozen?_setCell]; exact h.f1, by rw [World.frozen?_setCell]; exact h.f2⟩
theorem Bx.lt {W : World} {xb : Nat} {p g : Int} {fv : Value} (h : Bx W xb p g fv) : xb < W.heap.size := World.block_lt_of_cell? _ _ h.c0
def gOf (W : World) (xb : Nat) : Nat := match W.cell? ⟨xb, 1, none⟩ with | some (.int _ g) => g.toNat | _ => 0
theorem Bx.gOf {W : World} {xb : Nat} {p : Int} {G : Nat} {fv : Value} (h : Bx W xb p G fv) : gOf W xb = G := by
  unfold Go.Proofs.Ytceocooppjfjjaa.gOf
  rw [h.c1]
  show (G : Int).toNat = G
  exact Int.toNat_natCast G
theorem line_info : (Try.prog.info? 43).map (fun i => (i.zero, i.size, i.bytes)) = some (some (.agg #[.int .i64 0, .int .i64 0, .slice none 0 0]), 3, 40) := by kernel_rfl
theorem int_info : (Try.prog.info? 3).map (fun i => (i.zero, i.size, i.bytes)) = some (some (.int .i64 0), 1, 8) := by kernel_rfl
set_option maxRecDepth 20000 in
set_option maxHeartbeats 6400000 in
theorem pratt_Make (n : Nat) (w : World) (hp : M.Pr n) (hn : n ≤ 1048576) :
    Calls Try.prog 24 #[.int .i64 n] w fun e w' => (∃ (D : DataW Value) (U : List Nat) (all : List Int) (items : List Item) (a : Option Addr) (c : Nat), e = .returned (.tuple #[.slice a items.length c, .int .i64 0]) ∧ RowN w' a (fun i => (items.getD i default).2) (items.map (·.1)) ∧
      items.length = all.length ∧ Keysd D U all ∧ (∀ x ∈ U, M.Pr x ∧ x ≤ n) ∧ (∀ N : Nat, Maps.has D (kL N) = true → ∀ q ∈ M.prs (N - 1), Maps.has D (kL q) = true) ∧ Maps.has D (kL n) = true ∧ (∀ i y, items[i]? = some y → LineOk all i y.1) ∧ 2 ^ (U.length - 1) ≤ n) ∧ Below w.heap.size w w' := by
  obtain ⟨T, hT⟩ := M.tree_ex n hp
  have p2 : M.Pr 2 := ⟨Nat.le_refl _, fun d hd => by
    have := Nat.le_of_dvd (by decide) hd
    have : d ≠ 0 := by rintro rfl; simp at hd
    omega⟩
  obtain ⟨U, hUe⟩ : ∃ U, U = 2 :: T := ⟨_, rfl⟩
  have hU1 : ∀ x ∈ U, M.Pr x ∧ x ≤ n := fun x hx => by
    rw [hUe] at hx
    rcases List.mem_cons.1 hx with rfl | hx
    · exact ⟨p2, hp.1⟩
    · exact hT.pr x hx
  have hU : ∀ x ∈ U, M.Pr x ∧ x ≤ 1048576 := fun x hx => ⟨(hU1 x hx).1, by have := (hU1 x hx).2; omega⟩
  have hsh : ∀ x ∈ U, ∀ q, M.Pr q → q ∣ x - 1 → q ∈ U := fun x hx q hq hd => by
    rw [hUe] at hx ⊢
    rcases List.mem_cons.1 hx with rfl | hx
    · have := Nat.le_of_dvd (by decide) hd
      have := hq.1
      omega
    · rcases hT.shut x hx q hq hd with h | h
      · rw [h]; exact List.mem_cons_self
      · exact List.mem_cons_of_mem _ h
  have hnU : n ∈ U := by
    rw [hUe]
    rcases hT.top with h | h
    · rw [h]; exact List.mem_cons_self
    · exact List.mem_cons_of_mem _ h
  have hUl : 2 ^ (U.length - 1) ≤ n := by rw [hUe]; exact hT.short
  have hU20 : U.length ≤ 21 := by
    refine Classical.byContradiction fun h => ?_
    have : 2 ^ 21 ≤ 2 ^ (U.length - 1) := Nat.pow_le_pow_right (by decide) (by omega)
    have e : (2 : Nat) ^ 21 = 2097152 := by decide
    omega
  have hn1 := hp.1
  have hprb : prB (n : Int) = true := prB_yes (by rw [Int.toNat_natCast]; exact hp)
  have HIs := Lib.hid (primes_Is_in n w (by omega) (by omega))
  rw [hprb] at HIs
  have HNeed := Lib.hid fun b D W (h : NM W b D U) => pratt_need U hU hsh (by omega) b n n D W (Nat.le_refl _) hnU h
  have HUU := Lib.hid hU
  have HU1 := Lib.hid hU1
  have HUl := Lib.hid hUl
  have hmm := @run_makeMap Try.prog
  obtain ⟨i0, hi0, hz0, hz1, hz2⟩ := info_parts int_info
  obtain ⟨i2, hi2, hx0, hx1, hx2⟩ := info_parts line_info
  have hu : Try.prog.underlying 41 = some (.slice 3) := by kernel_rfl
  have hu2 : Try.prog.underlying 36 = some (.slice 43) := by kernel_rfl
  clear hp hprb hU hU1 hsh hnU hUl hT hUe p2
  go_enter Try.func24, Try.ntmps24
  go_wp2_with fail
  refine HIs.out.mono ?_
  rintro e w1 ⟨rfl, hb1⟩
  go_wp2_with fail
  have hnm0 : NM (w1.alloc (.map #[] 0)) w1.heap.size (.map []) U := ⟨World.ownsMap_made _ _ _ _, fun x hx => by simp [Maps.has] at hx, fun N hN => by simp [Maps.has] at hN⟩
  have HC := Lib.hid (HNeed.out _ _ _ hnm0)
  obtain ⟨b, hb⟩ : ∃ b, w1.heap.size = b := ⟨_, rfl⟩
  have hb1' : Below w.heap.size w (w1.alloc (.map #[] 0)) := hb1.alloc hb1.size _
  have z1 := hb1.size
  have HB1 := Lib.hid hb1'
  rw [hb] at HC z1
  rw [hb]
  clear hnm0 hb1 hb1' HIs HNeed hmm
  refine HC.out.mono ?_
  rintro e w3 ⟨rfl, ⟨D, hN3, hG3, hh3⟩, hbt⟩
  have hb3 : Below w.heap.size w w3 := HB1.out.trans (hbt.bel.mono (by omega))
  have HB3 := Lib.hid hb3
  have hsz3 := hN3.size
  have HSo := Lib.hid (slices_Sorted_keys b _ D vR w3 hN3.own (by omega))
  have HN3 := Lib.hid hN3
  have HG3 : Hid (∀ N : Nat, Maps.has D (kL N) = true → ∀ q ∈ M.prs (N - 1), Maps.has D (kL q) = true) := Lib.hid fun N hN => (hG3.shut N hN).resolve_left (by simp [Maps.has])
  have HH3 := Lib.hid hh3
  have hz3 : w.heap.size ≤ w3.heap.size := hb3.size
  clear hb hN3 hG3 hh3 hbt hb3 hsz3 HC HB1
  go_wp2_with (first
    | (go_at_call 48; refine (maps_Keys _ _).mono ?_; rintro e w' ⟨rfl, rfl⟩)
    | (go_at_call 47; refine HSo.out.mono ?_; rintro e w4 ⟨v4, ss, rfl, hperm, hrow, hb4⟩
       have hrl : (ss.map (Value.int .i64)).length = ss.length := by simp
       have HKd := Lib.hid (keysd HN3.out hperm)
       have hal : (ss.mergeSort fun x y => decide (x ≤ y)).length = ss.length := (List.mergeSort_perm ss _).length_eq
       obtain ⟨all, hall⟩ : ∃ all, (ss.mergeSort fun x y => decide (x ≤ y)) = all := ⟨_, rfl⟩
       rw [hall] at hrow HKd hal
       rw [← hal] at hrow
       obtain ⟨a4, c4, rfl, hr4⟩ := own_rowL (show w4.ownsRow _ 2 1 v4 all.length (inV all) from hrow)
       have hba : Below w3.heap.size w3 w4 := below_two (alloc_below w3 _) hb4
       have HB4w := Lib.hid (HB3.out.trans (hba.mono hz3))
       have HN4 := Lib.hid (HN3.out.kept hba)
       have HR4 := Lib.hid hr4
       obtain ⟨L, hL⟩ : ∃ L, all.length = L := ⟨_, rfl⟩
       have HLA := Lib.hid hL
       have hL21 : L ≤ 21 := by have := HKd.out.len; omega
       rw [hL]
       clear hrl hal hall hrow hr4 hba hb4 hperm hL))
  have hblt := HN4.out.lt
  go_loopw [8, 37] (fun lv iv wr => ∃ (I : Nat) (items : List Item), iv = .int .i64 I ∧ I ≤ L ∧ Hid (items.length = I) ∧ Hid (Below w4.heap.size w4 wr) ∧ Hid (wr.ownsRow w4.heap.size 43 3 lv I (itV items)) ∧ Hid (Items wr w4.heap.size all items)) (fun _ iv _ => L - (intOf iv).toNat)
  case atStart => exact ⟨0, [], rfl, Nat.zero_le _, Lib.hid rfl, Lib.hid (Below.refl _ _), Lib.hid (World.ownsRow_nil _ _ _ _), Lib.hid (Items.nil _ _ _)⟩
  case round =>
    obtain ⟨I, items, rfl, hI, HLn2, HB4, HO, HIt⟩ := hrel
    by_cases hIe : I = L
    · subst hIe
      obtain ⟨af, cf, rfl, hrn⟩ := items_rowN HO.out HLn2.out HIt.out
      have HRN := Lib.hid hrn
      clear hrn
      go_wp2_with fail
      go_ret2
      exact ⟨⟨D, U, all, items, af, cf, by rw [HLn2.out]; rfl, HRN.out, HLn2.out.trans HLA.out.symm, HKd.out, HU1.out, HG3.out, HH3.out, HIt.out.ok, HUl.out⟩, HB4w.out.trans (HB4.out.mono HB4w.out.size)⟩
    · have hI2 : (I : Int) < L := by omega
      have hI3 : I < L := by omega
      obtain ⟨pz, hpz⟩ : ∃ x, all[I]? = some x := ⟨_, List.getElem?_eq_getElem (by rw [HLA.out]; exact hI3)⟩
      obtain ⟨p, rfl, hpU⟩ := HKd.out.nat pz (List.mem_of_getElem? hpz)
      obtain ⟨bq, oq, rfl, hcq⟩ := (HR4.out.below HB4.out (Nat.le_refl _)).shape (by rw [HLA.out]; omega)
      have kp := hcq I _ hpz
      have HPA := Lib.hid hpz
      have hp2 := (HUU.out p hpU).1.1
      have hpb := (HUU.out p hpU).2
      have HPr := Lib.hid (HUU.out p hpU).1
      have hpD := (HKd.out.mem p).1 (List.mem_of_getElem? hpz)
      obtain ⟨Wb, hWb⟩ : ∃ W, wr.alloc (.cells #[.int .i64 (p : Int), .int .i64 0, .slice none 0 0] 43) = W := ⟨_, rfl⟩
      obtain ⟨xb, hxb⟩ : ∃ b, wr.heap.size = b := ⟨_, rfl⟩
      have hbW : Below wr.heap.size wr Wb := hWb ▸ alloc_below wr _
      have HBx : Hid (Bx Wb xb p 0 (.slice none 0 0)) := Lib.hid (by rw [← hWb, ← hxb]; exact ⟨by simp [go_sem], by simp [go_sem], by simp [go_sem], by simp [go_sem], by simp [go_sem]⟩)
      have HNb := Lib.hid (HN4.out.kept (below_two HB4.out hbW))
      have hrow := HNb.out.rows p hpD
      obtain ⟨ap, cp, hve, hcp⟩ := own_any hrow
      have hlk := nm_look HNb.out.own hpb
      rw [hve] at hlk
      have HRp := Lib.hid hrow
      have HVE := Lib.hid hve
      have HBW := Lib.hid hbW
      have HSL0 := prsI_len (p - 1)
      obtain ⟨mm, hmme⟩ : ∃ m, (prsI (p - 1)).length = m := ⟨_, rfl⟩
      rw [hmme] at hlk HSL0
      have HML := Lib.hid hmme
      have HSL : Hid ((srcOf all p).length = mm) := Lib.hid (by rw [← hmme]; simp [srcOf, prsI])
      have hmm2 : mm + 1 ≤ p - 1 := by have := fac_len (M.fac_spec (show 0 < p - 1 by omega)); omega
      have hxw : w4.heap.size ≤ xb := by have := HB4.out.size; omega
      rw [← hWb] at hlk
      have HWb := Lib.hid hWb
      have HXb := Lib.hid hxb
      clear hpz hcq hpU hpD hbW hrow hcp hve hmme HSL0 hIe hWb hxb
      go_wp2_with fail
      rw [HWb.out, HXb.out]
      obtain ⟨wo, rfl⟩ : ∃ wo : World, wo = wr := ⟨_, rfl⟩
      have HNW := Lib.hid fun W (h : Below wo.heap.size wo W) => HN4.out.kept (below_two HB4.out h)
      have HDp : Hid (Maps.has D (kL p) = true) := Lib.hid ((HKd.out.mem p).1 (List.mem_of_getElem? HPA.out))
      go_loopw [47] (fun jv wr => ∃ (J : Nat) (fv : Value), jv = .int .i64 J ∧ J ≤ mm ∧ Hid (Below wo.heap.size wo wr) ∧ Hid (Bx wr xb p 0 fv) ∧ Hid (wr.ownsRow (xb + 1) 3 1 fv J (inV ((srcOf all p).take J)))) (fun jv _ => mm - (intOf jv).toNat)
      case atStart => exact ⟨0, .slice none 0 0, rfl, Nat.zero_le _, HBW, HBx, Lib.hid (World.ownsRow_nil _ _ _ _)⟩
      case round =>
        obtain ⟨J, fv, rfl, hJ, HB2, HBX2, HF0⟩ := hrel
        by_cases hJe : J = mm
        · subst hJe
          have hf2 := HF0.out
          rw [List.take_of_length_le (by rw [HSL.out]; exact Nat.le_refl _)] at hf2
          obtain ⟨af, cf, rfl, _⟩ := own_any hf2
          have HF2 := Lib.hid hf2
          clear hf2 hlk kp
          by_cases hp3 : (p : Int) ≤ 2
          · have hp3' : ¬ (2 : Int) < p := by omega
            obtain ⟨mm, rfl⟩ : ∃ m, m = J := ⟨_, rfl⟩
            have hbx := HBX2.out
            have c0 := hbx.c0
            have c1 := hbx.c1
            have c2 := hbx.c2
            have hown := own_keep HO.out HB2.out
            have HI5 := Lib.hid (HIt.out.keep HB2.out)
            have hz5 := HB2.out.size
            have hz4 := HB4.out.size
            have hfo := Lib.hid (own_lower (base' := w4.heap.size) HF2.out (by omega))
            have HLo : Hid (LineOk all I ⟨(p : Int), (0 : Int), srcOf all p⟩) := Lib.hid ⟨p, HPA.out, rfl, rfl, .inl (by omega), Int.le_refl _, (show (0 : Int) ≤ 1048576 by decide)⟩
            have HBo := HB2
            clear hbx
            go_wp2_with (first
              | (at_builtin; refine wpList_append_own _ rfl _ _ 36 rfl w4.heap.size 43 i2 (.agg #[.int .i64 0, .int .i64 0, .slice none 0 0]) 3 40 hu2 hi2 hx0 hx1 hx2 rfl (by decide) _ _ _ rfl (hown.alloc _) ⟨wr.heap.size, 0, none⟩ 1 1 [.int .i64 (p : Int), .int .i64 (0 : Int), .slice af mm cf] rfl rfl (fun j u hj => cells_new wr #[.int .i64 (p : Int), .int .i64 (0 : Int), .slice af mm cf] 43 j u (by simpa using hj)) (by simp [Value.oneCell']) (by unfold maxLen; omega) (by omega) (by simp; omega) ?_; intro v' w7 hown' hg2 hnil2))
            have hfo' := hfo.out
            have hres := make_step (x := ⟨(p : Int), (0 : Int), srcOf all p⟩) (af := af) (cf := cf) (alloc_below wr _) hg2 hown HI5.out HLn2.out HSL.out hfo' HLo.out
            have HR := Lib.hid hres
            have kk2 := ((HB4.out.trans (HBo.out.mono HB4.out.size)).alloc (by omega) (.cells #[.int .i64 (p : Int), .int .i64 (0 : Int), .slice af mm cf] 43)).grown hg2 (by simp; omega) (fun j hj => (hown.lt j hj).1)
            have HO7 : Hid (w7.ownsRow w4.heap.size 43 3 v' (I + 1) (itV (items ++ [(⟨(p : Int), (0 : Int), srcOf all p⟩, (af, cf))]))) := Lib.hid (by rw [itV_snoc]; simp only; rw [HSL.out]; exact hown')
            clear hown hown' hg2 hnil2 hfo' hres c0 c1 c2
            go_round
            case rel => exact ⟨I + 1, items ++ [(⟨(p : Int), (0 : Int), srcOf all p⟩, (af, cf))], by go_num, by omega, Lib.hid (by rw [List.length_append, HLn2.out]; rfl), Lib.hid kk2, HO7, HR⟩
            case measure => simp [intOf]; omega

          · have hp3' : (2 : Int) < p := by omega
            obtain ⟨mm, rfl⟩ : ∃ m, m = J := ⟨_, rfl⟩
            obtain ⟨g0, gg1, gg2, gg3⟩ := M.gen_ex HPr.out
            have HGG := Lib.hid gg3
            have c1 := HBX2.out.c1
            have f1 := HBX2.out.f1
            clear gg3 hp3
            go_wp2_with fail
            obtain ⟨wi, rfl⟩ : ∃ wi : World, wi = wr := ⟨_, rfl⟩
            go_loopw [68] (fun _ wr => ∃ G : Nat, 1 ≤ G ∧ G ≤ g0 ∧ Hid (Below wo.heap.size wo wr) ∧ Hid (Bx wr xb p G (.slice af mm cf)) ∧ Hid (wr.ownsRow (xb + 1) 3 1 (.slice af mm cf) mm (inV (srcOf all p)))) (fun _ wr => p - gOf wr xb)
            case atStart => exact ⟨1, Nat.le_refl _, gg1, Lib.hid (HB2.out.setCell (p := ⟨xb, 1, none⟩) (by rw [HXb.out]; exact Nat.le_refl _) _), Lib.hid (HBX2.out.setG 1), Lib.hid (own_setfar HF2.out (Nat.lt_succ_self _) _)⟩
            case round =>
              clear c1 f1
              obtain ⟨G, hG1, hG2, HBG, HBXG, HFG⟩ := hrel
              have hNr := HNW.out wr HBG.out
              have hlk := nm_look hNr.own hpb
              have hrow := hNr.rows p HDp.out
              rw [HVE.out] at hlk hrow
              rw [HML.out] at hrow hlk
              have HC := Lib.hid (pratt_generates (G : Int) (p : Int) ap cp (prsI (p - 1)) mm wr HML.out (own_rowLe hrow) (by omega) (by omega) (by omega) (fun q hq => by
                obtain ⟨q', hq', rfl⟩ := List.mem_map.1 hq
                have h7 := (M.mem_prs (show 0 < p - 1 by omega)).1 hq'
                have := Nat.le_of_dvd (show 0 < p - 1 by omega) h7.2
                have := h7.1.1
                omega))
              have c0 := HBXG.out.c0
              have c1 := HBXG.out.c1
              have c2 := HBXG.out.c2
              clear hNr hrow
              go_wp2_with fail
              refine HC.out.mono ?_
              rintro e w5 ⟨rfl, hb5⟩
              have hxl := HBXG.out.lt
              have HB5 := Lib.hid (below_two HBG.out hb5)
              have HBX5 := Lib.hid (HBXG.out.belowB (hb5.mono (by omega)))
              have HF5 := Lib.hid (own_keep HFG.out hb5)
              clear hb5 c0 c1 c2 hlk
              by_cases hgb : M.genB (G : Int) (p : Int) (prsI (p - 1)) = true
              · have HGT : Hid (M.genB (G : Int) (p : Int) ((M.prs (p - 1)).map fun q : Nat => (q : Int)) = true) := Lib.hid hgb
                rw [hgb]
                clear hgb
                have hbx := HBX5.out
                have c0 := hbx.c0
                have c1 := hbx.c1
                have c2 := hbx.c2
                have hown := own_keep HO.out HB5.out
                have HI5 := Lib.hid (HIt.out.keep HB5.out)
                have hz5 := HB5.out.size
                have hz4 := HB4.out.size
                have hfo := Lib.hid (own_lower (base' := w4.heap.size) HF5.out (by omega))
                have HLo : Hid (LineOk all I ⟨(p : Int), (G : Int), srcOf all p⟩) := Lib.hid ⟨p, HPA.out, rfl, rfl, .inr ⟨show (1 : Int) ≤ (G : Int) by omega, show (G : Int) < (p : Int) by omega, HGT.out⟩, (show (0 : Int) ≤ (G : Int) by omega), (show (G : Int) ≤ 1048576 by omega)⟩
                have HBo := HB5
                clear hbx
                go_wp2_with (first
                  | (at_builtin; refine wpList_append_own _ rfl _ _ 36 rfl w4.heap.size 43 i2 (.agg #[.int .i64 0, .int .i64 0, .slice none 0 0]) 3 40 hu2 hi2 hx0 hx1 hx2 rfl (by decide) _ _ _ rfl (hown.alloc _) ⟨w5.heap.size, 0, none⟩ 1 1 [.int .i64 (p : Int), .int .i64 (G : Int), .slice af mm cf] rfl rfl (fun j u hj => cells_new w5 #[.int .i64 (p : Int), .int .i64 (G : Int), .slice af mm cf] 43 j u (by simpa using hj)) (by simp [Value.oneCell']) (by unfold maxLen; omega) (by omega) (by simp; omega) ?_; intro v' w7 hown' hg2 hnil2))
                have hfo' := hfo.out
                have hres := make_step (x := ⟨(p : Int), (G : Int), srcOf all p⟩) (af := af) (cf := cf) (alloc_below w5 _) hg2 hown HI5.out HLn2.out HSL.out hfo' HLo.out
                have HR := Lib.hid hres
                have kk2 := ((HB4.out.trans (HBo.out.mono HB4.out.size)).alloc (by omega) (.cells #[.int .i64 (p : Int), .int .i64 (G : Int), .slice af mm cf] 43)).grown hg2 (by simp; omega) (fun j hj => (hown.lt j hj).1)
                have HO7 : Hid (w7.ownsRow w4.heap.size 43 3 v' (I + 1) (itV (items ++ [(⟨(p : Int), (G : Int), srcOf all p⟩, (af, cf))]))) := Lib.hid (by rw [itV_snoc]; simp only; rw [HSL.out]; exact hown')
                clear hown hown' hg2 hnil2 hfo' hres c0 c1 c2
                go_round
                case rel => exact ⟨I + 1, items ++ [(⟨(p : Int), (G : Int), srcOf all p⟩, (af, cf))], by go_num, by omega, Lib.hid (by rw [List.length_append, HLn2.out]; rfl), Lib.hid kk2, HO7, HR⟩
                case measure => simp [intOf]; omega

              · have hne : G ≠ g0 := fun e => hgb (by subst e; exact HGG.out)
                have hgf : M.genB (G : Int) (p : Int) (prsI (p - 1)) = false := by simpa using hgb
                rw [hgf]
                have g1 : IntKind.i64.wrap ((G : Int) + 1) = (G : Int) + 1 := IntWalk.i64_in _ (by omega)
                have c1 := HBX5.out.c1
                have f1 := HBX5.out.f1
                have HGo := Lib.hid HBXG.out.gOf
                have HGn := Lib.hid (HBX5.out.setG ((G : Int) + 1))
                clear hgb hgf
                go_wp2_with fail
                go_round
                case rel => exact ⟨G + 1, by omega, by omega, Lib.hid (HB5.out.setCell (p := ⟨xb, 1, none⟩) (by rw [HXb.out]; exact Nat.le_refl _) _), HGn, Lib.hid (own_setfar HF5.out (Nat.lt_succ_self _) _)⟩
                case measure =>
                  have e1 := HGo.out
                  have e2 : gOf (w5.setCell ⟨xb, 1, none⟩ (.int .i64 ((G : Int) + 1))) xb = G + 1 := Bx.gOf (G := G + 1) HGn.out
                  rw [e1, e2]
                  omega
        · have hJ2 : (J : Int) < mm := by omega
          have hJ3 : J < mm := by omega
          have hNr := HNW.out wr HB2.out
          have hrow := hNr.rows p HDp.out
          rw [HVE.out, HML.out] at hrow
          obtain ⟨gq, cq, he, _, _, _, _⟩ := own_shape hrow (by omega)
          injection he with he1 he2 he3
          subst he1 he3
          obtain ⟨q, hq⟩ : ∃ q, (M.prs (p - 1))[J]? = some q := ⟨_, List.getElem?_eq_getElem (by have := HML.out; rw [prsI, List.length_map] at this; omega)⟩
          have hq1 : (inV (prsI (p - 1)))[J]? = some (.int .i64 (q : Int)) := by simp [inV, prsI, hq]
          have kx := own_cell hrow hq1
          have hqa : (q : Int) ∈ all := (HKd.out.mem q).2 (HG3.out p HDp.out q (List.mem_of_getElem? hq))
          have hix := ixOf_get hqa
          have hixl : ixOf all q < L := by have := (List.getElem?_eq_some_iff.1 hix).1; rw [HLA.out] at this; exact this
          have HC := Lib.hid (slices_BinarySearch (some ⟨bq, oq, none⟩) c4 all q (ixOf all q) wr (HR4.out.below (HB4.out.trans (HB2.out.mono HB4.out.size)) (Nat.le_refl _)) HLA.out (by omega) HKd.out.sort hix)
          have HST : Hid ((srcOf all p).take (J + 1) = (srcOf all p).take J ++ [(ixOf all q : Int)]) := Lib.hid (by rw [List.take_add_one]; congr 1; simp [srcOf, hq])
          obtain ⟨k, hk⟩ : ∃ k, ixOf all q = k := ⟨_, rfl⟩
          rw [hk] at HC HST hixl
          have hxl := HBX2.out.lt
          clear hNr hrow hq hq1 hqa hix hk he2 hlk kp hJe
          go_wp2_with fail
          refine HC.out.mono ?_
          rintro e w5 ⟨rfl, hb5⟩
          have HB5 := Lib.hid (below_two HB2.out hb5)
          have HBX5 := Lib.hid (HBX2.out.belowB (hb5.mono (by omega)))
          have c2 := HBX5.out.c2
          have hown := own_keep HF0.out hb5
          have hz5 := HB5.out.size
          have hxl5 := HBX5.out.lt
          have hxo : wo.heap.size ≤ xb := by rw [HXb.out]; exact Nat.le_refl _
          clear hb5 kx
          go_wp2_with (first
            | (at_builtin; refine wpList_append_own _ rfl _ _ 41 rfl (xb + 1) 3 i0 (.int .i64 0) 1 8 hu hi0 hz0 hz1 hz2 rfl (by decide) _ _ _ rfl (hown.alloc _) ⟨w5.heap.size, 0, none⟩ 1 1 [.int .i64 (k : Int)] rfl rfl (fun j u hj => cells_new w5 #[.int .i64 (k : Int)] 3 j u (by simpa using hj)) (by simp [Value.oneCell']) (by unfold maxLen; omega) (by omega) (by simp; omega) ?_; intro v' w6 hown' hg2 hnil2
               obtain ⟨a6, c6, rfl, _⟩ := own_any hown'
               have hbe6 : Below (xb + 1) w5 w6 := ((Below.refl _ _).alloc (by omega) _).grown hg2 (by simp; omega) (fun j hj => (hown.lt j hj).1)
               have HBX6 := Lib.hid (HBX5.out.belowB hbe6)
               have HB6 := Lib.hid (((HB5.out).alloc hz5 (.cells #[.int .i64 (k : Int)] 3)).grown hg2 (by simp; omega) (fun j hj => by have := (hown.lt j hj).1; omega))
               have c2' := HBX6.out.c2
               have f2' := HBX6.out.f2))
          go_round
          case rel => exact ⟨J + 1, _, by go_num, by omega, Lib.hid (HB6.out.setCell (p := ⟨xb, 2, none⟩) hxo _), Lib.hid (HBX6.out.setF _), Lib.hid (own_setfar (by rw [HST.out]; simpa [inV] using hown') (Nat.lt_succ_self _) _)⟩
          case measure => simp [intOf]; omega
end Go.Proofs.Ytceocooppjfjjaa

/- (tree.place).texts. -/
import Derived.Test.YtpikjahgnnejmaaTxN
import Derived.Test.YtpikjahgnnejmaaBit64
namespace Go.Proofs.Ytpikjahgnnejmaa
open Go.RowKit
set_option linter.unusedVariables false
set_option linter.unusedSimpArgs false
def nK (ps : List Nat) : List Int := ps.map fun n : Nat => (n : Int)
theorem nK_len (ps : List Nat) : (nK ps).length = ps.length := by simp [nK]
/-- the texts that are summed but for the leaf's -/
def txO (n i : Nat) (xs ps : List Nat) : Option (List (Option (List Nat))) := if ps.any (fun x => decide (65536 ≤ x)) = true then none else textsL 64 n i (leafS xs) ps
theorem textsL_end (f n i h : Nat) (ps : List Nat) (hn : n ≤ 1) : textsL f n i h ps = if ps = [] then some [] else none := by
  cases f with
  | zero => rfl
  | succ f =>
    show (if n ≤ 1 then _ else _) = _
    rw [if_pos hn]
theorem textsL_skip {f n i h : Nat} {ps : List Nat} (hn : ¬ n ≤ 1) (hx : n ≤ (i ^^^ 1)) : textsL (f + 1) n i h ps = (textsL f ((n + 1) / 2) (i / 2) h ps).map (none :: ·) := by
  show (if n ≤ 1 then _ else if n ≤ (i ^^^ 1) then _ else _) = _
  rw [if_neg hn, if_pos hx]
theorem textsL_nil {f n i h : Nat} (hn : ¬ n ≤ 1) (hx : ¬ n ≤ (i ^^^ 1)) : textsL (f + 1) n i h [] = none := by
  show (if n ≤ 1 then _ else if n ≤ (i ^^^ 1) then _ else _) = _
  rw [if_neg hn, if_neg hx]
theorem textsL_pair {f n i h p : Nat} {t : List Nat} (hn : ¬ n ≤ 1) (hx : ¬ n ≤ (i ^^^ 1)) : textsL (f + 1) n i h (p :: t) = (textsL f ((n + 1) / 2) (i / 2) (sumN (if i % 2 = 1 then pairN p h else pairN h p)) t).map (some (if i % 2 = 1 then pairN p h else pairN h p) :: ·) := by
  show (if n ≤ 1 then _ else if n ≤ (i ^^^ 1) then _ else _) = _
  rw [if_neg hn, if_neg hx]
theorem textsL_fuel' : ∀ (f g n i h : Nat) (ps : List Nat), n ≤ f + 1 → f ≤ g → textsL g n i h ps = textsL f n i h ps
  | 0, g, n, i, h, ps, hn, hg => by rw [textsL_end g n i h ps (by omega), textsL_end 0 n i h ps (by omega)]
  | f + 1, 0, n, i, h, ps, hn, hg => by omega
  | f + 1, g + 1, n, i, h, ps, hn, hg => by
    by_cases h1 : n ≤ 1
    · rw [textsL_end _ n i h ps h1, textsL_end _ n i h ps h1]
    · by_cases h2 : n ≤ (i ^^^ 1)
      · rw [textsL_skip h1 h2, textsL_skip h1 h2, textsL_fuel' f g _ _ _ _ (by omega) (by omega)]
      · cases ps with
        | nil => rw [textsL_nil h1 h2, textsL_nil h1 h2]
        | cons p t => rw [textsL_pair h1 h2, textsL_pair h1 h2, textsL_fuel' f g _ _ _ _ (by omega) (by omega)]
theorem textsL_fuel (n i h : Nat) (ps : List Nat) (hn : n ≤ 64) : textsL 64 n i h ps = textsL 63 n i h ps := textsL_fuel' 63 64 n i h ps (by omega) (by omega)
theorem map_two (o : Option (List (Option (List Nat)))) (x : Option (List Nat)) (pre : List (Option (List Nat))) : (o.map (x :: ·)).map (pre ++ ·) = o.map ((pre ++ [x]) ++ ·) := by
  cases o with
  | none => rfl
  | some l => simp
theorem RowK.tail {W : World} {a a' : Option Addr} {p : Nat} {t : List Nat} (h : RowK .u32 W a (nK (p :: t))) (ha : t = [] ∨ ∃ b o, a = some ⟨b, o, none⟩ ∧ a' = some ⟨b, o + 1, none⟩) : RowK .u32 W a' (nK t) := by
  rcases ha with rfl | ⟨b, o, rfl, rfl⟩
  · exact ⟨fun _ => rfl, fun ad e i x hx => by simp [nK] at hx⟩
  · refine ⟨fun e => (by cases e), fun ad e i x hx => ?_⟩
    cases e
    have h1 := h.cells _ rfl (i + 1) x (by simpa [nK] using hx)
    rw [addr_litT] at h1 ⊢
    rw [show o + 1 + i = o + (i + 1) by omega]
    exact h1
theorem slice_info : (Try.prog.info? 26).map (fun i => (i.zero, i.size, i.bytes)) = some (some (.slice none 0 0), 1, 24) := by kernel_rfl
theorem Txs.grow {W W' : World} {base g cap g' cap' : Nat} {vs : List Value} {L : List (Option (List Nat))} {u : Value} {t : Option (List Nat)} {m : Nat} (hm : m = L.length) (h : Txs W base g cap vs L) (hu : TxAt W base u t)
    (hg : W.grownBy W' (Value.slice (some ⟨g, 0, none⟩) m cap).ownBlock) (ho : W'.ownsRow base 26 1 (.slice (some ⟨g', 0, none⟩) (m + 1) cap') (m + 1) (vs ++ [u])) (hne : 26 ≠ 5) (hb : base ≤ g) :
    Txs W' base g' cap' (vs ++ [u]) (L ++ [t]) := by
  subst hm
  have keep : ∀ (u : Value) (t : Option (List Nat)), TxAt W base u t → TxAt W' base u t := fun u t hat => by
    cases t with
    | none => exact hat
    | some xs =>
      refine ⟨hat.1.kept hg ?_, hat.2⟩
      rcases hat.1.2 with ⟨h1, _⟩ | ⟨g1, c1, cur1, h1, h2, h3, _⟩
      · left; rw [h1]; rfl
      · right
        rw [h1]
        obtain ⟨cur, _, h5, _⟩ := own_heap h.own
        intro e
        have e2 : g1 = g := by simpa [Value.ownBlock] using e
        subst e2
        rw [h5] at h3
        have h6 := Option.some.inj h3
        injection h6 with h7 h8 h9
        exact hne h8
  refine ⟨by rw [List.length_append]; exact ho, fun j x y hx hy => ?_⟩
  have hvl := h.len
  by_cases hj : j < L.length
  · rw [List.getElem?_append_left (by omega)] at hx
    rw [List.getElem?_append_left hj] at hy
    exact keep _ _ (h.at' j x y hx hy)
  · have hj2 : j = L.length := by
      have := (List.getElem?_eq_some_iff.1 hy).1
      simp at this; omega
    subst hj2
    rw [List.getElem?_append_right (by omega)] at hx
    rw [List.getElem?_append_right (by omega)] at hy
    simp [hvl] at hx hy
    subst hx hy
    exact keep _ _ hu
set_option maxHeartbeats 800000 in
theorem texts_far (x : Int) (W : World) (h1 : 0 ≤ x) (h2 : x ≤ 4294967295) : Calls Try.prog 58 #[.int .u32 x] W fun e w' => e = .returned (.bool (decide (65536 ≤ x))) ∧ Below W.heap.size W w' := by
  by_cases h : x < 65536
  · have e1 : x / 65536 = 0 := by omega
    have e3 : decide (65536 ≤ x) = false := decide_eq_false (by omega)
    rw [e3]
    clear e3
    go_enter Try.func58, Try.ntmps58
    go_wp2
    go_ret
    exact ⟨rfl, Below.refl _ _⟩
  · have e1 : ((x / 65536) == 0) = false := by simp; omega
    have e2 : ((x / 65536) != 0) = true := by simp; omega
    have e3 : decide (65536 ≤ x) = true := decide_eq_true (by omega)
    rw [e3]
    clear e3
    go_enter Try.func58, Try.ntmps58
    go_wp2
    go_ret
    exact ⟨rfl, Below.refl _ _⟩
theorem lastSum_lt : ∀ (A : List (Option (List Nat))) (h : Nat), h < 65536 → lastSum h A < 65536
  | [], h, hh => hh
  | none :: A, h, hh => lastSum_lt A h hh
  | some x :: A, h, _ => lastSum_lt A (sumN x) (sumN_lt _)
theorem TxAt.below {W W' : World} {base : Nat} {u : Value} {t : Option (List Nat)} (h : TxAt W base u t) (hb : Below W.heap.size W W') : TxAt W' base u t := by
  cases t with
  | none => exact h
  | some xs => exact ⟨own_keep h.1 hb, h.2⟩
theorem Txs.lower {W : World} {base base' g cap : Nat} {vs : List Value} {L : List (Option (List Nat))} (h : Txs W base g cap vs L) (hb : base' ≤ base) : Txs W base' g cap vs L :=
  ⟨own_lower h.own hb, fun j u t hu ht => by
    have := h.at' j u t hu ht
    cases t with
    | none => exact this
    | some xs => exact ⟨own_lower this.1 hb, this.2⟩⟩
theorem Txs.set {W : World} {base g cap : Nat} {vs : List Value} {L : List (Option (List Nat))} (h : Txs W base g cap vs L) {a : Addr} (ha : a.block < base) (u : Value) : Txs (W.setCell a u) base g cap vs L :=
  ⟨ownsRow_set_other h.own ha u, fun j x t hu ht => by
    have := h.at' j x t hu ht
    cases t with
    | none => exact this
    | some xs => exact ⟨ownsRow_set_other this.1 ha u, this.2⟩⟩
/-- the world and the slots while texts runs -/
structure TxI (w : World) (leaf : List Nat) (R : Option (List (Option (List Nat)))) (n i f : Nat) (pre : List (Option (List Nat))) (ps : List Nat) (b : Option Addr) (d g cap : Nat) (vs : List Value) (W : World) : Prop where
  n0 : W.cell? ⟨w.heap.size, 0, none⟩ = some (.int .i64 n)
  i0 : W.cell? ⟨w.heap.size, 1, none⟩ = some (.int .i64 i)
  nf : W.frozen? ⟨w.heap.size, 0, none⟩ = false
  jf : W.frozen? ⟨w.heap.size, 1, none⟩ = false
  bel : Below w.heap.size w W
  lt : w.heap.size < W.heap.size
  txs : Txs W (w.heap.size + 1) g cap vs (some leaf :: pre)
  row : RowK .u32 w b (nK ps)
  len : ps.length ≤ d
  cap' : d ≤ 9223372036854775807
  small : ∀ x ∈ ps, x < 65536
  pos : 1 ≤ n
  inn : i < n
  fuel : n ≤ f + 1
  bound : pre.length + f ≤ 64
  eq : R = (textsL f n i (lastSum 0 (some leaf :: pre)) ps).map (pre ++ ·)
set_option maxRecDepth 100000 in
set_option maxHeartbeats 6400000 in
theorem place_texts (n i : Nat) (a b : Option Addr) (c d : Nat) (xs ps : List Nat) (w : World) (h1 : RowB w a c xs) (h2 : RowK .u32 w b (nK ps)) (hn : 1 ≤ n) (hn2 : n ≤ 64) (hi : i < n) (hx : xs.length < 4096) (hx2 : ∀ x ∈ xs, x < 256) (hp : ps.length ≤ 64) (hp2 : ∀ x ∈ ps, x ≤ 4294967295) (hd : ps.length ≤ d) (hd2 : d ≤ maxLen) :
    Calls Try.prog 43 #[.agg #[.int .i64 n, .int .i64 i], .slice a xs.length c, .slice b ps.length d] w fun e w' => ((∃ v : Value, e = .returned (.tuple #[v, .bool false]) ∧ txO n i xs ps = none) ∨ ∃ (l : List (Option (List Nat))) (g cap : Nat) (vs : List Value), txO n i xs ps = some l ∧ l.length ≤ 64 ∧ e = .returned (.tuple #[.slice (some ⟨g, 0, none⟩) (l.length + 1) cap, .bool true]) ∧ Txs w' w.heap.size g cap vs (some (0 :: xs) :: l)) ∧ Below w.heap.size w w' := by
  obtain ⟨i0, hi0, hz0, hz1, hz2⟩ := info_parts slice_info
  have hu : Try.prog.underlying 42 = some (.slice 26) := by kernel_rfl
  have HLT := Lib.hid fun W hb => tree_leafText a c xs W (h1.below (B := w.heap.size) hb (Nat.le_refl _)) (by omega)
  have HCF := Lib.hid fun W (hb : Below w.heap.size w W) => contains_u32 58 #[] (fun args w => by kernel_rfl) (fun x => decide (65536 ≤ x)) b d (nK ps) W ps.length (h2.below hb (Nat.le_refl _)) (nK_len ps) (by omega)
    (fun W2 x _ hx => texts_far x W2 (by obtain ⟨y, _, rfl⟩ := List.mem_map.1 hx; omega) (by obtain ⟨y, hy, rfl⟩ := List.mem_map.1 hx; have := hp2 y hy; omega))
  have HR2 := Lib.hid h2
  have hq : (nK ps).any (fun x => decide (65536 ≤ x)) = ps.any (fun x => decide (65536 ≤ x)) := by
    unfold nK
    rw [List.any_map]
    congr 1
    funext x
    exact decide_eq_decide.2 (by show (65536 : Int) ≤ (x : Int) ↔ _; omega)
  rw [hq] at HCF
  obtain ⟨R, hR⟩ : ∃ R, txO n i xs ps = R := ⟨_, rfl⟩
  have HRR := Lib.hid hR
  rw [hR]
  obtain ⟨Q, hQ⟩ : ∃ Q, ps.any (fun x => decide (65536 ≤ x)) = Q := ⟨_, rfl⟩
  have HQ := Lib.hid hQ
  rw [hQ] at HCF
  obtain ⟨XL, hXL⟩ : ∃ k, xs.length = k := ⟨_, rfl⟩
  have HXL := Lib.hid hXL
  rw [hXL] at HLT hx ⊢
  obtain ⟨PL, hPL⟩ : ∃ k, ps.length = k := ⟨_, rfl⟩
  have HPL := Lib.hid hPL
  rw [hPL] at HCF hp hd ⊢
  have HX2 := Lib.hid hx2
  unfold maxLen at hd2
  clear h1 h2 hq hR hQ hXL hPL hx2 hp2
  go_enter Try.func43, Try.ntmps43
  go_wp2_with fail
  refine (HLT.out _ ((Below.refl _ _).alloc (Nat.le_refl _) _)).mono ?_
  rintro e w1 ⟨v1, rfl, hb1, ho1⟩
  have hbw1 := below_two ((Below.refl _ _).alloc (Nat.le_refl _) _) hb1
  obtain ⟨g1, c1, rfl, hg1, hg2, hg3, hg4⟩ := own_shape ho1 (by omega)
  have kn := kept hb1 (b := w.heap.size) (o := 0) (v := .int .i64 n) (by simp [go_sem]) (by simp)
  have ki := kept hb1 (b := w.heap.size) (o := 1) (v := .int .i64 i) (by simp [go_sem]) (by simp)
  have fn : w1.frozen? ⟨w.heap.size, 0, none⟩ = false := (hb1.frozen (p := ⟨w.heap.size, 0, none⟩) (by simp)).trans (by simp [go_sem])
  have fi : w1.frozen? ⟨w.heap.size, 1, none⟩ = false := (hb1.frozen (p := ⟨w.heap.size, 1, none⟩) (by simp)).trans (by simp [go_sem])
  have hzw : w.heap.size + 1 ≤ w1.heap.size := by have := hb1.size; simpa using this
  simp only [World.size_alloc] at ho1 hg1
  have hsh : (xs.length + 1 : Nat) = XL + 1 := by rw [HXL.out]
  have hown0 : (w1.alloc (.cells #[.slice (some ⟨g1, 0, none⟩) (XL + 1) c1] 26)).ownsRow (w.heap.size + 1) 26 1 (.slice (some ⟨w1.heap.size, 0, none⟩) 1 1) 1 [.slice (some ⟨g1, 0, none⟩) (XL + 1) c1] := own_of hzw rfl (MapKept.heap_alloc w1 _).1
  have hbA : Below w1.heap.size w1 (w1.alloc (.cells #[.slice (some ⟨g1, 0, none⟩) (XL + 1) c1] 26)) := (Below.refl _ _).alloc (Nat.le_refl _) _
  have hT0 : Txs (w1.alloc (.cells #[.slice (some ⟨g1, 0, none⟩) (XL + 1) c1] 26)) (w.heap.size + 1) w1.heap.size 1 [.slice (some ⟨g1, 0, none⟩) (XL + 1) c1] [some (0 :: xs)] := by
    refine ⟨hown0, fun j u t hu ht => ?_⟩
    have hj : j = 0 := by
      have := (List.getElem?_eq_some_iff.1 hu).1
      simp at this; exact this
    subst hj
    simp at hu ht
    subst hu ht
    refine ⟨?_, by simp, by simp; rw [HXL.out]; omega, fun x hx => ?_⟩
    · have := own_keep ho1 hbA
      rw [List.length_cons, HXL.out]
      exact this
    · rcases List.mem_cons.1 hx with rfl | h
      · omega
      · exact HX2.out x h
  have HC := Lib.hid (HCF.out (w1.alloc (.cells #[.slice (some ⟨g1, 0, none⟩) (XL + 1) c1] 26)) (below_two hbw1 hbA))
  have HT0 := Lib.hid hT0
  have HBA := Lib.hid (below_two hbw1 hbA)
  have hkn := kept hbA kn (by omega)
  have hki := kept hbA ki (by omega)
  have hfn := (hbA.frozen (p := ⟨w.heap.size, 0, none⟩) (by show w.heap.size < w1.heap.size; omega)).trans fn
  have hfi := (hbA.frozen (p := ⟨w.heap.size, 1, none⟩) (by show w.heap.size < w1.heap.size; omega)).trans fi
  clear hb1 ho1 hown0 hT0 hbA kn ki fn fi hbw1 HLT
  go_wp2_with fail
  refine HC.out.mono ?_
  rintro e w3 ⟨rfl, hb3⟩
  have hbw3 := below_two HBA.out hb3
  have hT3 := HT0.out.below hb3
  have kn := kept hb3 hkn (by simp; omega)
  have ki := kept hb3 hki (by simp; omega)
  have fn := (hb3.frozen (p := ⟨w.heap.size, 0, none⟩) (by simp; omega)).trans hfn
  have fi := (hb3.frozen (p := ⟨w.heap.size, 1, none⟩) (by simp; omega)).trans hfi
  have hz3 : w1.heap.size + 1 ≤ w3.heap.size := by have := hb3.size; simpa using this
  clear hkn hki hfn hfi HC
  cases Q
  · have HTX : Hid (R = textsL 64 n i (leafS xs) ps) := Lib.hid (by rw [← HRR.out]; unfold txO; rw [if_neg (by rw [HQ.out]; simp)])
    have HSM : Hid (∀ x ∈ ps, x < 65536) := Lib.hid fun x hx => by
      have := List.any_eq_false.1 HQ.out x hx
      simpa using this
    have HI0 : Hid (TxI w (0 :: xs) R n i 63 [] ps b d w1.heap.size 1 [.slice (some ⟨g1, 0, none⟩) (XL + 1) c1] w3) := Lib.hid ⟨kn, ki, fn, fi, hbw3, by omega, hT3, HR2.out, by rw [HPL.out]; exact hd, by omega, HSM.out, hn, hi, by omega, by simp, by
      rw [HTX.out]
      show _ = (textsL 63 n i (leafS xs) ps).map ([] ++ ·)
      rw [textsL_fuel n i (leafS xs) ps hn2]
      cases textsL 63 n i (leafS xs) ps <;> rfl⟩
    clear hT3 hb3 hbw3 HBA
    go_wp2
    go_loopw [2, 8] (fun pv lv wr => ∃ (n' i' f : Nat) (pre : List (Option (List Nat))) (ps' : List Nat) (b' : Option Addr) (d' g cap k m : Nat) (vs : List Value), pv = .slice b' k d' ∧ lv = .slice (some ⟨g, 0, none⟩) m cap ∧ Hid (ps'.length = k) ∧ Hid (m = pre.length + 1) ∧ Hid (TxI w (0 :: xs) R n' i' f pre ps' b' d' g cap vs wr)) (fun _ _ wr => match wr.cell? ⟨w.heap.size, 0, none⟩ with | some (.int _ q) => q.toNat | _ => 0)
    case atStart => exact ⟨n, i, 63, [], ps, b, d, _, 1, PL, 1, _, rfl, rfl, HPL, Lib.hid rfl, HI0⟩
    case round =>
      obtain ⟨n', i', f, pre, ps', b', d', g, cap, k, m, vs, rfl, rfl, HK, HM, HI⟩ := hrel
      have kn := HI.out.n0
      have ki := HI.out.i0
      have fn := HI.out.nf
      have fi := HI.out.jf
      have hz := HI.out.bel.size
      have hlt := HI.out.lt
      have hpos := HI.out.pos
      have hinn := HI.out.inn
      have hful := HI.out.fuel
      have hbd := HI.out.bound
      have hown := HI.out.txs.own
      rw [List.length_cons, ← HM.out] at hown
      have hm := HM.out
      by_cases h1 : n' ≤ 1
      · have HEQ : Hid (R = (if ps' = [] then some [] else none : Option (List (Option (List Nat)))).map (pre ++ ·)) := Lib.hid (by rw [HI.out.eq, textsL_end f n' i' _ ps' h1])
        have hbb := HI.out.bel
        cases ps' with
        | nil =>
          have hk0 : k = 0 := HK.out.symm
          subst hk0
          have HRS : Hid (R = some pre) := Lib.hid (by rw [HEQ.out, if_pos rfl]; simp)
          have HTL := Lib.hid (HI.out.txs.lower (show w.heap.size ≤ w.heap.size + 1 by omega))
          clear hown hm
          go_wp2
          go_ret2
          exact ⟨.inr ⟨pre, HRS.out, by omega, g, cap, by rw [HM.out]; rfl, vs, HTL.out⟩, hbb⟩
        | cons p t =>
          have hk0 : ((k : Int) == 0) = false := by have := HK.out; simp at this ⊢; omega
          have HRS : Hid (R = none) := Lib.hid (by rw [HEQ.out, if_neg (by simp)]; rfl)
          clear hown hm
          go_wp2
          go_ret2
          exact ⟨.inl ⟨_, rfl, HRS.out⟩, hbb⟩
      · obtain ⟨f, rfl⟩ : ∃ q, f = q + 1 := ⟨f - 1, by omega⟩
        have ex := i64_xor_nat i' 1 (by omega) (by omega)
        rw [show ((1 : Nat) : Int) = (1 : Int) from rfl] at ex
        have hxl : i' ^^^ 1 < 128 := Nat.xor_lt_two_pow (n := 7) (by omega) (by omega)
        have m0 : IntKind.i64.wrap ((n' : Int) + 1) = ((n' + 1 : Nat) : Int) := by rw [IntWalk.i64_in _ (by omega)]; omega
        have m1 : ((n' + 1 : Nat) : Int).tdiv 2 = (((n' + 1) / 2 : Nat) : Int) := by rw [Int.tdiv_eq_ediv_of_nonneg (by omega)]; norm_cast
        have m2 : ((n' + 1 : Nat) : Int) / 2 = (((n' + 1) / 2 : Nat) : Int) := by norm_cast
        have m3 : (i' : Int).tdiv 2 = ((i' / 2 : Nat) : Int) := by rw [Int.tdiv_eq_ediv_of_nonneg (by omega)]; norm_cast
        have m4 : (i' : Int) / 2 = ((i' / 2 : Nat) : Int) := by norm_cast
        obtain ⟨n1, hn1⟩ : ∃ q, n' + 1 = q := ⟨_, rfl⟩
        rw [hn1] at m0 m1 m2
        obtain ⟨n2, hn2'⟩ : ∃ q, n1 / 2 = q := ⟨_, rfl⟩
        rw [hn2'] at m1 m2
        obtain ⟨i2, hi2⟩ : ∃ q, i' / 2 = q := ⟨_, rfl⟩
        rw [hi2] at m3 m4
        have b1 : 1 ≤ n2 := by omega
        have b2 : i2 < n2 := by omega
        have b3 : n2 ≤ f + 1 := by omega
        have b4 : n2 < n' := by omega
        have HN2 : Hid ((n' + 1) / 2 = n2) := Lib.hid (by rw [hn1]; exact hn2')
        have HI2 := Lib.hid hi2
        have hmb : m ≤ 66 := by omega
        have hblk : ∀ (W5 : World) (v : Value) (T : TypeId), (wr.alloc (.cells #[v] T)).grownBy W5 (Value.slice (some ⟨g, 0, none⟩) m cap).ownBlock → W5.heap[w.heap.size]? = wr.heap[w.heap.size]? := fun W5 v T hg => by
          refine (hg.block w.heap.size (by simp; omega) fun e => ?_).trans (((Below.refl wr.heap.size wr).alloc (Nat.le_refl _) (.cells #[v] T)).block _ hlt)
          have := (own_block_lt hown e.symm).2
          omega
        have HBK := Lib.hid hblk
        have hgb : w.heap.size + 1 ≤ g := by obtain ⟨_, h, _⟩ := own_heap hown; exact h
        clear hn1 hn2' hi2 hm hblk
        by_cases hx1 : n' ≤ (i' ^^^ 1)
        · have HST : Hid (R = (textsL f n2 i2 (lastSum 0 (some (0 :: xs) :: pre)) ps').map ((pre ++ [none]) ++ ·)) := Lib.hid (by
            rw [HI.out.eq, textsL_skip h1 hx1, map_two, HN2.out, HI2.out])
          obtain ⟨x1, hx1e⟩ : ∃ q, i' ^^^ 1 = q := ⟨_, rfl⟩
          rw [hx1e] at ex hxl hx1
          clear hx1e
          go_wp2_with (first
            | (at_builtin; refine wpList_append_own _ rfl _ _ 42 rfl (w.heap.size + 1) 26 i0 (.slice none 0 0) 1 24 hu hi0 hz0 hz1 hz2 rfl (by decide) _ _ _ rfl (hown.alloc _) ⟨wr.heap.size, 0, none⟩ 1 1 [.slice none 0 0] rfl rfl (cell_new1 _ _ _ rfl) (by simp [Value.oneCell']) (by unfold maxLen; omega) (by omega) (by simp; omega) ?_; intro v' w5 hown5 hg5 hnil5; obtain ⟨g5, c5, rfl, hgs5⟩ := own_shape hown5 (by omega); have kk := ((HI.out.bel.alloc hz (.cells #[.slice none 0 0] 26)).grown hg5 (by simp; omega) (fun j hj => by have := (own_block_lt hown hj).2; omega)); have hb5 := HBK.out w5 _ _ hg5; have kn5 := (World.cell?_of_block (a := ⟨w.heap.size, 0, none⟩) hb5).trans kn; have ki5 := (World.cell?_of_block (a := ⟨w.heap.size, 1, none⟩) hb5).trans ki; have fn5 := (World.frozen?_of_block (a := ⟨w.heap.size, 0, none⟩) hb5).trans fn; have fi5 := (World.frozen?_of_block (a := ⟨w.heap.size, 1, none⟩) hb5).trans fi; have hl5 : w.heap.size < w5.heap.size := by have := hg5.size; simp at this; omega))
          go_roundw
          case rel =>
            refine ⟨n2, i2, f, pre ++ [none], ps', b', d', g5, c5, k, m + 1, vs ++ [.slice none 0 0], rfl, rfl, HK, Lib.hid (by rw [HM.out]; simp), Lib.hid ⟨by simp [go_sem, kn5, hl5], by simp [go_sem, ki5, hl5], by simp [go_sem, fn5], by simp [go_sem, fi5], (kk.setCell (p := ⟨w.heap.size, 0, none⟩) (Nat.le_refl _) _).setCell (p := ⟨w.heap.size, 1, none⟩) (Nat.le_refl _) _, by simp; omega, ?_, HI.out.row, HI.out.len, HI.out.cap', HI.out.small, b1, b2, b3, by simp; omega, ?_⟩⟩
            · exact ((Txs.grow (t := none) (by rw [HM.out]; rfl) (HI.out.txs.below ((Below.refl _ _).alloc (Nat.le_refl _) _)) rfl hg5 hown5 (by decide) hgb).set (a := ⟨w.heap.size, 0, none⟩) (by show w.heap.size < w.heap.size + 1; omega) _).set (a := ⟨w.heap.size, 1, none⟩) (by show w.heap.size < w.heap.size + 1; omega) _
            · rw [HST.out]
              congr 1
              show textsL f n2 i2 (lastSum 0 (some (0 :: xs) :: pre)) ps' = textsL f n2 i2 (lastSum 0 ((some (0 :: xs) :: pre) ++ [none])) ps'
              rw [lastSum_append]; rfl
          case measure => simp [go_sem, kn5, kn, hl5]; omega
        · have hx2 : (i' ^^^ 1) < n' := by omega
          cases ps' with
          | nil =>
            have hk0 : k = 0 := HK.out.symm
            subst hk0
            have HRS : Hid (R = none) := Lib.hid (by rw [HI.out.eq, textsL_nil h1 hx1]; rfl)
            have hbb := HI.out.bel
            obtain ⟨x1, hx1e⟩ : ∃ q, i' ^^^ 1 = q := ⟨_, rfl⟩
            rw [hx1e] at ex hxl hx1 hx2
            clear hx1e hown
            go_wp2
            go_ret2
            exact ⟨.inl ⟨_, rfl, HRS.out⟩, hbb⟩
          | cons p t =>
            have hk : k = t.length + 1 := HK.out.symm
            obtain ⟨bb, o, rfl, hcell⟩ := HI.out.row.shape (by simp [nK])
            have kp := (HI.out.bel.cell (p := ⟨bb, o, none⟩) (World.block_lt_of_cell? w _ (by have := hcell 0 p (by simp [nK]); simpa using this))).trans (by have := hcell 0 p (by simp [nK]); simpa using this)
            have hp3 : p < 65536 := HI.out.small p (by simp)
            have HND := Lib.hid fun W hb => tree_node (w.heap.size + 1) g cap m vs (some (0 :: xs) :: pre) W (HI.out.txs.below hb) (by rw [HM.out]; rfl) (by omega)
            have HLS : Hid (lastSum 0 (some (0 :: xs) :: pre) < 65536) := Lib.hid (lastSum_lt _ _ (by omega))
            have HST : Hid (R = (textsL f n2 i2 (sumN (if i' % 2 = 1 then pairN p (lastSum 0 (some (0 :: xs) :: pre)) else pairN (lastSum 0 (some (0 :: xs) :: pre)) p)) t).map ((pre ++ [some (if i' % 2 = 1 then pairN p (lastSum 0 (some (0 :: xs) :: pre)) else pairN (lastSum 0 (some (0 :: xs) :: pre)) p)]) ++ ·)) := Lib.hid (by
              rw [HI.out.eq, textsL_pair h1 hx1, map_two, HN2.out, HI2.out])
            obtain ⟨q0, hq0⟩ : ∃ q, lastSum 0 (some (0 :: xs) :: pre) = q := ⟨_, rfl⟩
            have HQ0 := Lib.hid hq0
            rw [hq0] at HND HLS HST
            have hd3 : k ≤ d' := by rw [← HK.out]; exact HI.out.len
            have hd4 := HI.out.cap'
            have HKT := Lib.hid hk
            have hk1 : ((k : Int) == 0) = false := by simp; omega
            have hk2 : (1 : Int) ≤ k := by omega
            have hk3 : 1 ≤ k := by omega
            have hk4 : 0 < k := by omega
            have hk5 : (0 : Int) < k := by omega
            have HP3 := Lib.hid hp3
            clear hp3
            obtain ⟨x1, hx1e⟩ : ∃ q, i' ^^^ 1 = q := ⟨_, rfl⟩
            rw [hx1e] at ex hxl hx1 hx2
            have zb : bb < wr.heap.size := World.block_lt_of_cell? wr _ kp
            clear hx1e hq0 hk hcell
            go_wp2_with fail
            refine wp_region_D (S := (fun W : World => Below wr.heap.size wr W)) (fun _ => true) (by kernel_rfl) (Below.refl _ _).drew (fun hHeld => ?_)
            simp only [List.size_toArray, List.length_cons, List.length_nil, Nat.reduceAdd, Array.replicate_succ, Array.replicate_zero, List.push_toArray, List.append_toArray, List.nil_append, List.cons_append]
            refine WD_free (i := 0) (oi := _) (v := ?_) rfl (by kernel_rfl) (fun _ _ _ h => h) (Or.inl ⟨by rfl, ?_⟩) ?_
            rotate_left
            · (intro W hS; (try dsimp only at hS); clear hS; go_simp; with_reducible rfl)
            try simp only [Act.put, List.getElem_toArray, List.getElem_cons_succ, List.getElem_cons_zero, List.setIfInBounds_toArray, List.set_cons_zero, List.set_cons_succ]
            refine WD_free (i := 2) (oi := _) (v := ?_) rfl (by kernel_rfl) (fun _ _ _ h => h) (Or.inl ⟨by rfl, ?_⟩) ?_
            rotate_left
            · (intro W hS; (try dsimp only at hS); clear hS; go_simp; with_reducible rfl)
            try simp only [Act.put, List.getElem_toArray, List.getElem_cons_succ, List.getElem_cons_zero, List.setIfInBounds_toArray, List.set_cons_zero, List.set_cons_succ]
            refine WD_free (i := 3) (oi := _) (v := ?_) rfl (by kernel_rfl) (fun _ _ _ h => h) (Or.inl ⟨by rfl, ?_⟩) ?_
            rotate_left
            · (intro W hS; (try dsimp only at hS); clear hS; go_simp; with_reducible rfl)
            try simp only [Act.put, List.getElem_toArray, List.getElem_cons_succ, List.getElem_cons_zero, List.setIfInBounds_toArray, List.set_cons_zero, List.set_cons_succ]
            refine WD_take (i := 4) (oi := _) (v := ?_) rfl (by kernel_rfl) (fun _ _ _ h => h) (Or.inl ⟨by rfl, ?_⟩) (by assumption) ?_
            rotate_left
            · (intro W hS; (try dsimp only at hS); have kk := (hS.cell (p := ⟨bb, o, none⟩) zb).trans kp; clear hS; go_simp; with_reducible rfl)
            try simp only [Act.put, List.getElem_toArray, List.getElem_cons_succ, List.getElem_cons_zero, List.setIfInBounds_toArray, List.set_cons_zero, List.set_cons_succ]
            refine WD_step (i := 1) (o := _) rfl (by kernel_rfl) (fun K hK => ?_)
            go_simp
            refine (HND.out _ hHeld).mono ?_
            rintro e w4 ⟨rfl, hb4⟩
            go_wp2_with fail
            replace hHeld := hHeld.trans (hb4.mono hHeld.size)
            refine hK.out _ _ (fun _ _ => hHeld) ?_
            clear hK K
            try simp only [Act.put, List.getElem_toArray, List.getElem_cons_succ, List.getElem_cons_zero, List.setIfInBounds_toArray, List.set_cons_zero, List.set_cons_succ]
            clear hb4
            refine WD_free (i := 5) (oi := _) (v := ?_) rfl (by kernel_rfl) (fun _ _ _ h => h) (Or.inl ⟨by rfl, ?_⟩) ?_
            rotate_left
            · (intro W hS; (try dsimp only at hS); clear hS; go_simp; with_reducible rfl)
            try simp only [Act.put, List.getElem_toArray, List.getElem_cons_succ, List.getElem_cons_zero, List.setIfInBounds_toArray, List.set_cons_zero, List.set_cons_succ]
            refine WD_free (i := 6) (oi := _) (v := ?_) rfl (by kernel_rfl) (fun _ _ _ h => h) (Or.inl ⟨by rfl, ?_⟩) ?_
            rotate_left
            · (intro W hS; (try dsimp only at hS); clear hS; go_simp; with_reducible rfl)
            try simp only [Act.put, List.getElem_toArray, List.getElem_cons_succ, List.getElem_cons_zero, List.setIfInBounds_toArray, List.set_cons_zero, List.set_cons_succ]
            refine WD_done (by kernel_rfl) ?_ _
            have hT4 := HI.out.txs.below hHeld
            have hbw4 : Below w.heap.size w w4 := HI.out.bel.trans (hHeld.mono hz)
            have kn4 := kept hHeld kn hlt
            have ki4 := kept hHeld ki hlt
            have fn4 := (hHeld.frozen (p := ⟨w.heap.size, 0, none⟩) hlt).trans fn
            have fi4 := (hHeld.frozen (p := ⟨w.heap.size, 1, none⟩) hlt).trans fi
            have hz4 := hHeld.size
            have hr : i' % 2 = 0 ∨ i' % 2 = 1 := by omega
            have m5 : (i' : Int).tmod 2 = ((i' % 2 : Nat) : Int) := by rw [Int.tmod_eq_emod_of_nonneg (by omega)]; norm_cast
            have m6 : (i' : Int) % 2 = ((i' % 2 : Nat) : Int) := by norm_cast
            obtain ⟨r, hre⟩ : ∃ r, i' % 2 = r := ⟨_, rfl⟩
            rw [hre] at m5 m6 hr HST
            have HT4 := Lib.hid hT4
            clear hre kn ki fn fi hown zb kp HBK hT4 hHeld
            rcases hr with rfl | rfl
            · have HST2 : Hid (R = (textsL f n2 i2 (sumN (pairN q0 p)) t).map ((pre ++ [some (pairN q0 p)]) ++ ·)) := Lib.hid (by rw [HST.out]; rfl)
              have HPT := Lib.hid (tree_pairText q0 p w4 (by have := HLS.out; have := HP3.out; omega) (by have := HLS.out; have := HP3.out; omega))
              clear HST
              go_wp2_with fail
              refine HPT.out.mono ?_
              rintro e w6 ⟨rfl, hw6⟩
              have hb6 : Below w4.heap.size w4 w6 := by rw [hw6]; exact (Below.refl _ _).alloc (Nat.le_refl _) _
              have hx6 : w6.ownsRow w4.heap.size 5 1 (.slice (some ⟨w4.heap.size, 0, none⟩) 5 5) 5 (byV (pairN q0 p)) := by rw [hw6]; exact own_of (Nat.le_refl _) rfl (MapKept.heap_alloc w4 _).1
              have hT6 := HT4.out.below hb6
              have hown6 := hT6.own
              rw [List.length_cons, ← HM.out] at hown6
              have hz6 : w4.heap.size + 1 ≤ w6.heap.size := by rw [hw6]; simp
              have HTX : Hid (TxAt w6 (w.heap.size + 1) (.slice (some ⟨w4.heap.size, 0, none⟩) 5 5) (some (pairN q0 p))) := Lib.hid ⟨own_lower hx6 (by omega), by simp [pairN], by simp [pairN], pair_small q0 p⟩
              have HT6 := Lib.hid hT6
              have hbw6 : Below w.heap.size w w6 := hbw4.trans (hb6.mono hbw4.size)
              have kn6 := kept hb6 kn4 (by omega)
              have ki6 := kept hb6 ki4 (by omega)
              have fn6 := (hb6.frozen (p := ⟨w.heap.size, 0, none⟩) (by show w.heap.size < w4.heap.size; omega)).trans fn4
              have fi6 := (hb6.frozen (p := ⟨w.heap.size, 1, none⟩) (by show w.heap.size < w4.heap.size; omega)).trans fi4
              have hzb6 := hbw6.size
              have hblk6 : ∀ (W5 : World) (v : Value) (T : TypeId), (w6.alloc (.cells #[v] T)).grownBy W5 (Value.slice (some ⟨g, 0, none⟩) m cap).ownBlock → W5.heap[w.heap.size]? = w6.heap[w.heap.size]? := fun W5 v T hg => by
                refine (hg.block w.heap.size (by simp; omega) fun e => ?_).trans (((Below.refl w6.heap.size w6).alloc (Nat.le_refl _) (.cells #[v] T)).block _ (by omega))
                have := (own_block_lt hown6 e.symm).2
                omega
              have HBK6 := Lib.hid hblk6
              obtain ⟨w4s, hw4s⟩ : ∃ q, w4.heap.size = q := ⟨_, rfl⟩
              rw [hw4s] at hx6 HTX hz6 ⊢
              clear hw6 hb6 hx6 hT6 hblk6 kn4 ki4 fn4 fi4 HPT hw4s
              go_wp2_with (first
                | (at_builtin; refine wpList_append_own _ rfl _ _ 42 rfl (w.heap.size + 1) 26 i0 (.slice none 0 0) 1 24 hu hi0 hz0 hz1 hz2 rfl (by decide) _ _ _ rfl (hown6.alloc _) ⟨w6.heap.size, 0, none⟩ 1 1 [.slice (some ⟨w4s, 0, none⟩) 5 5] rfl rfl (cell_new1 _ _ _ rfl) (by simp [Value.oneCell']) (by unfold maxLen; omega) (by omega) (by simp; omega) ?_; intro v' w5 hown5 hg5 hnil5; obtain ⟨g5, c5, rfl, hgs5⟩ := own_shape hown5 (by omega); have kk := ((hbw6.alloc hzb6 (.cells #[.slice (some ⟨w4s, 0, none⟩) 5 5] 26)).grown hg5 (by simp; omega) (fun j hj => by have := (own_block_lt hown6 hj).2; omega)); have hb5 := HBK6.out w5 _ _ hg5; have kn5 := (World.cell?_of_block (a := ⟨w.heap.size, 0, none⟩) hb5).trans kn6; have ki5 := (World.cell?_of_block (a := ⟨w.heap.size, 1, none⟩) hb5).trans ki6; have fn5 := (World.frozen?_of_block (a := ⟨w.heap.size, 0, none⟩) hb5).trans fn6; have fi5 := (World.frozen?_of_block (a := ⟨w.heap.size, 1, none⟩) hb5).trans fi6; have hl5 : w.heap.size < w5.heap.size := by have := hg5.size; simp at this; omega))
              have hroww : RowK .u32 w (if d' = 1 then some ⟨bb, o, none⟩ else some ⟨bb, o + 1, none⟩) (nK t) := HI.out.row.tail (by
                by_cases hd : d' = 1
                · left
                  have := HKT.out
                  exact List.length_eq_zero_iff.1 (by omega)
                · right
                  exact ⟨bb, o, rfl, if_neg hd⟩)
              have hkt := HKT.out
              go_roundw
              case rel =>
                refine ⟨n2, i2, f, pre ++ [some (pairN q0 p)], t, _, d' - 1, g5, c5, k - 1, m + 1, vs ++ [.slice (some ⟨w4s, 0, none⟩) 5 5], rfl, rfl, Lib.hid (by omega), Lib.hid (by rw [HM.out]; simp), Lib.hid ⟨by simp [go_sem, kn5, hl5], by simp [go_sem, ki5, hl5], by simp [go_sem, fn5], by simp [go_sem, fi5], (kk.setCell (p := ⟨w.heap.size, 0, none⟩) (Nat.le_refl _) _).setCell (p := ⟨w.heap.size, 1, none⟩) (Nat.le_refl _) _, by simp; omega, ?_, hroww, by omega, by omega, fun x hx => HI.out.small x (by simp [hx]), b1, b2, b3, by simp; omega, ?_⟩⟩
                · exact ((Txs.grow (t := some (pairN q0 p)) (by rw [HM.out]; rfl) (HT6.out.below ((Below.refl _ _).alloc (Nat.le_refl _) _)) (TxAt.below HTX.out ((Below.refl _ _).alloc (Nat.le_refl _) _)) hg5 hown5 (by decide) hgb).set (a := ⟨w.heap.size, 0, none⟩) (by show w.heap.size < w.heap.size + 1; omega) _).set (a := ⟨w.heap.size, 1, none⟩) (by show w.heap.size < w.heap.size + 1; omega) _
                · rw [HST2.out]
                  congr 1
                  show _ = textsL f n2 i2 (lastSum 0 ((some (0 :: xs) :: pre) ++ [some (pairN q0 p)])) t
                  rw [lastSum_append]; rfl
              case measure => simp [go_sem, kn5, HI.out.n0, hl5]; omega
            · have HST2 : Hid (R = (textsL f n2 i2 (sumN (pairN p q0)) t).map ((pre ++ [some (pairN p q0)]) ++ ·)) := Lib.hid (by rw [HST.out]; rfl)
              have HPT := Lib.hid (tree_pairText p q0 w4 (by have := HLS.out; have := HP3.out; omega) (by have := HLS.out; have := HP3.out; omega))
              clear HST
              go_wp2_with fail
              refine HPT.out.mono ?_
              rintro e w6 ⟨rfl, hw6⟩
              have hb6 : Below w4.heap.size w4 w6 := by rw [hw6]; exact (Below.refl _ _).alloc (Nat.le_refl _) _
              have hx6 : w6.ownsRow w4.heap.size 5 1 (.slice (some ⟨w4.heap.size, 0, none⟩) 5 5) 5 (byV (pairN p q0)) := by rw [hw6]; exact own_of (Nat.le_refl _) rfl (MapKept.heap_alloc w4 _).1
              have hT6 := HT4.out.below hb6
              have hown6 := hT6.own
              rw [List.length_cons, ← HM.out] at hown6
              have hz6 : w4.heap.size + 1 ≤ w6.heap.size := by rw [hw6]; simp
              have HTX : Hid (TxAt w6 (w.heap.size + 1) (.slice (some ⟨w4.heap.size, 0, none⟩) 5 5) (some (pairN p q0))) := Lib.hid ⟨own_lower hx6 (by omega), by simp [pairN], by simp [pairN], pair_small p q0⟩
              have HT6 := Lib.hid hT6
              have hbw6 : Below w.heap.size w w6 := hbw4.trans (hb6.mono hbw4.size)
              have kn6 := kept hb6 kn4 (by omega)
              have ki6 := kept hb6 ki4 (by omega)
              have fn6 := (hb6.frozen (p := ⟨w.heap.size, 0, none⟩) (by show w.heap.size < w4.heap.size; omega)).trans fn4
              have fi6 := (hb6.frozen (p := ⟨w.heap.size, 1, none⟩) (by show w.heap.size < w4.heap.size; omega)).trans fi4
              have hzb6 := hbw6.size
              have hblk6 : ∀ (W5 : World) (v : Value) (T : TypeId), (w6.alloc (.cells #[v] T)).grownBy W5 (Value.slice (some ⟨g, 0, none⟩) m cap).ownBlock → W5.heap[w.heap.size]? = w6.heap[w.heap.size]? := fun W5 v T hg => by
                refine (hg.block w.heap.size (by simp; omega) fun e => ?_).trans (((Below.refl w6.heap.size w6).alloc (Nat.le_refl _) (.cells #[v] T)).block _ (by omega))
                have := (own_block_lt hown6 e.symm).2
                omega
              have HBK6 := Lib.hid hblk6
              obtain ⟨w4s, hw4s⟩ : ∃ q, w4.heap.size = q := ⟨_, rfl⟩
              rw [hw4s] at hx6 HTX hz6 ⊢
              clear hw6 hb6 hx6 hT6 hblk6 kn4 ki4 fn4 fi4 HPT hw4s
              go_wp2_with (first
                | (at_builtin; refine wpList_append_own _ rfl _ _ 42 rfl (w.heap.size + 1) 26 i0 (.slice none 0 0) 1 24 hu hi0 hz0 hz1 hz2 rfl (by decide) _ _ _ rfl (hown6.alloc _) ⟨w6.heap.size, 0, none⟩ 1 1 [.slice (some ⟨w4s, 0, none⟩) 5 5] rfl rfl (cell_new1 _ _ _ rfl) (by simp [Value.oneCell']) (by unfold maxLen; omega) (by omega) (by simp; omega) ?_; intro v' w5 hown5 hg5 hnil5; obtain ⟨g5, c5, rfl, hgs5⟩ := own_shape hown5 (by omega); have kk := ((hbw6.alloc hzb6 (.cells #[.slice (some ⟨w4s, 0, none⟩) 5 5] 26)).grown hg5 (by simp; omega) (fun j hj => by have := (own_block_lt hown6 hj).2; omega)); have hb5 := HBK6.out w5 _ _ hg5; have kn5 := (World.cell?_of_block (a := ⟨w.heap.size, 0, none⟩) hb5).trans kn6; have ki5 := (World.cell?_of_block (a := ⟨w.heap.size, 1, none⟩) hb5).trans ki6; have fn5 := (World.frozen?_of_block (a := ⟨w.heap.size, 0, none⟩) hb5).trans fn6; have fi5 := (World.frozen?_of_block (a := ⟨w.heap.size, 1, none⟩) hb5).trans fi6; have hl5 : w.heap.size < w5.heap.size := by have := hg5.size; simp at this; omega))
              have hroww : RowK .u32 w (if d' = 1 then some ⟨bb, o, none⟩ else some ⟨bb, o + 1, none⟩) (nK t) := HI.out.row.tail (by
                by_cases hd : d' = 1
                · left
                  have := HKT.out
                  exact List.length_eq_zero_iff.1 (by omega)
                · right
                  exact ⟨bb, o, rfl, if_neg hd⟩)
              have hkt := HKT.out
              go_roundw
              case rel =>
                refine ⟨n2, i2, f, pre ++ [some (pairN p q0)], t, _, d' - 1, g5, c5, k - 1, m + 1, vs ++ [.slice (some ⟨w4s, 0, none⟩) 5 5], rfl, rfl, Lib.hid (by omega), Lib.hid (by rw [HM.out]; simp), Lib.hid ⟨by simp [go_sem, kn5, hl5], by simp [go_sem, ki5, hl5], by simp [go_sem, fn5], by simp [go_sem, fi5], (kk.setCell (p := ⟨w.heap.size, 0, none⟩) (Nat.le_refl _) _).setCell (p := ⟨w.heap.size, 1, none⟩) (Nat.le_refl _) _, by simp; omega, ?_, hroww, by omega, by omega, fun x hx => HI.out.small x (by simp [hx]), b1, b2, b3, by simp; omega, ?_⟩⟩
                · exact ((Txs.grow (t := some (pairN p q0)) (by rw [HM.out]; rfl) (HT6.out.below ((Below.refl _ _).alloc (Nat.le_refl _) _)) (TxAt.below HTX.out ((Below.refl _ _).alloc (Nat.le_refl _) _)) hg5 hown5 (by decide) hgb).set (a := ⟨w.heap.size, 0, none⟩) (by show w.heap.size < w.heap.size + 1; omega) _).set (a := ⟨w.heap.size, 1, none⟩) (by show w.heap.size < w.heap.size + 1; omega) _
                · rw [HST2.out]
                  congr 1
                  show _ = textsL f n2 i2 (lastSum 0 ((some (0 :: xs) :: pre) ++ [some (pairN p q0)])) t
                  rw [lastSum_append]; rfl
              case measure => simp [go_sem, kn5, HI.out.n0, hl5]; omega
  · have HN : Hid (R = none) := Lib.hid (by rw [← HRR.out]; unfold txO; rw [if_pos HQ.out])
    clear kn ki fn fi hT3 hb3
    go_wp2
    go_ret2
    exact ⟨.inl ⟨_, rfl, HN.out⟩, hbw3⟩
end Go.Proofs.Ytpikjahgnnejmaa

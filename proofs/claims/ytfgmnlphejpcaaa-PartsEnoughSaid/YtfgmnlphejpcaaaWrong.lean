/- Points behind an address; the contract of poly.wrong. -/
import Derived.Test.YtfgmnlphejpcaaaPolC
import Derived.Maps.OwnSet
import Derived.Maps.OwnOps
import Derived.WalkSpells
namespace Go.Proofs.Ytfgmnlphejpcaaa
open Go.RowKit Go.Maps Go.WideMaps
set_option linter.unusedVariables false
set_option linter.unusedSimpArgs false
/-- points as cells -/
def flatI (pts : List (Int × Int)) : List Value := pts.flatMap fun v => [.int .i64 v.1, .int .i64 v.2]
theorem flatI_at : ∀ (pts : List (Int × Int)) (i : Nat) (v : Int × Int), pts[i]? = some v → (flatI pts)[i * 2]? = some (.int .i64 v.1) ∧ (flatI pts)[i * 2 + 1]? = some (.int .i64 v.2)
  | [], i, v, h => by simp at h
  | u :: t, 0, v, h => by simp at h; subst h; exact ⟨rfl, rfl⟩
  | u :: t, i + 1, v, h => by
    have ih := flatI_at t i v (by simpa using h)
    have e1 : (i + 1) * 2 = i * 2 + 1 + 1 := by omega
    rw [e1]
    show (Value.int .i64 u.1 :: Value.int .i64 u.2 :: flatI t)[i * 2 + 1 + 1]? = _ ∧ (Value.int .i64 u.1 :: Value.int .i64 u.2 :: flatI t)[i * 2 + 1 + 1 + 1]? = _
    exact ih
/-- a row of points behind an address -/
def RowP (W : World) (a : Option Addr) (c : Nat) (pts : List (Int × Int)) : Prop := (a = none → pts = [] ∧ c = 0) ∧ (∀ ad, a = some ad → ∀ (j : Nat) (u : Value), (flatI pts)[j]? = some u → W.cell? (ad.add j) = some u) ∧ pts.length ≤ c
theorem RowP.below {W W' : World} {a : Option Addr} {c : Nat} {pts : List (Int × Int)} (h : RowP W a c pts) {B : Nat} (hb : Below B W W') (hB : W.heap.size ≤ B) : RowP W' a c pts :=
  ⟨h.1, fun ad e j u hu => by
    have k := h.2.1 ad e j u hu
    exact (hb.cell (p := ad.add j) (Nat.lt_of_lt_of_le (World.block_lt_of_cell? W _ k) hB)).trans k, h.2.2⟩
theorem RowP.shape {W : World} {a : Option Addr} {c : Nat} {pts : List (Int × Int)} (h : RowP W a c pts) (hne : 0 < pts.length) :
    ∃ b o, a = some ⟨b, o, none⟩ ∧ ∀ (i : Nat) (v : Int × Int), pts[i]? = some v → W.cell? ⟨b, o + i * 2, none⟩ = some (.int .i64 v.1) ∧ W.cell? ⟨b, o + i * 2 + 1, none⟩ = some (.int .i64 v.2) := by
  rcases a with _ | ⟨b, o, s⟩
  · have := (h.1 rfl).1; subst this; simp at hne
  · have k0 := h.2.1 _ rfl 0 _ (flatI_at pts 0 _ (List.getElem?_eq_getElem hne)).1
    have hs : s = none := by
      cases s with
      | none => rfl
      | some y =>
        simp [World.cell?, Addr.add] at k0
        split at k0 <;> simp at k0
    subst hs
    refine ⟨b, o, rfl, fun i v hv => ?_⟩
    have k := h.2.1 _ rfl _ _ (flatI_at pts i v hv).1
    have k2 := h.2.1 _ rfl _ _ (flatI_at pts i v hv).2
    rw [Addr.add_lit] at k k2
    exact ⟨k, by rw [Nat.add_assoc]; exact k2⟩
/-- the set of the first coordinates seen -/
structure Seen (D : DataW Unit) (xs : List Int) : Prop where
  has : ∀ x : Int, Maps.has D (.int .i64 x) = decide (x ∈ xs)
  le : Maps.size D ≤ xs.length
  eq : Maps.size D = xs.length ↔ xs.Nodup
theorem Seen.nil : Seen (.map []) [] := ⟨fun x => by simp [has_eq], by simp [size_eq], by simp [size_eq]⟩
theorem Seen.put {D : DataW Unit} {xs : List Int} (h : Seen D xs) (ht : Tidy D) (x : Int) (d : DataW Unit) : Seen (D.put (.int .i64 x) d) (xs ++ [x]) := by
  refine ⟨fun y => ?_, ?_, ?_⟩
  · by_cases e : y = x
    · subst e
      rw [has_put_same ht.isMap (by simp [WideAt.IsKeyLit])]
      simp
    · rw [has_put_other (fun e2 => e (by injection e2)), h.has]
      simp [e]
  · rw [size_put ht, h.has]
    have := h.le
    split <;> simp <;> omega
  · rw [size_put ht, h.has]
    have h1 := h.le
    have h2 := h.eq
    by_cases e : x ∈ xs
    · rw [if_pos (by simpa using e)]
      simp only [List.length_append, List.length_cons, List.length_nil, List.nodup_append]
      constructor
      · intro e2; omega
      · rintro ⟨_, _, e3⟩; exact absurd rfl (e3 x e x (by simp))
    · rw [if_neg (by simpa using e)]
      simp only [List.length_append, List.length_cons, List.length_nil, List.nodup_append]
      constructor
      · intro e2
        refine ⟨h2.1 (by omega), by simp, fun a ha b hb e3 => ?_⟩
        simp at hb
        subst hb; subst e3
        exact e ha
      · rintro ⟨e2, _⟩; have := h2.2 e2; omega
/-- is a point out of range -/
def badP (p : Int) (v : Int × Int) : Bool := badB p v.1 || badB p v.2
/-- what is wrong with points -/
noncomputable def wrongE (p : Int) (pts : List (Int × Int)) : Int :=
  if primeE p ≠ 0 then primeE p else if 13 < pts.length then 1 else if pts.any (badP p) = true then 2 else if (pts.map (·.1)).Nodup then 0 else 4
theorem wrongE_bad {p : Int} {pts : List (Int × Int)} (h : primeE p = 0) (h2 : ¬ 13 < pts.length) (j : Nat) (v : Int × Int) (hv : pts[j]? = some v) (hb : badP p v = true) : wrongE p pts = 2 := by
  unfold wrongE; rw [if_neg (by simpa using h), if_neg h2, if_pos (List.any_eq_true.2 ⟨v, List.mem_of_getElem? hv, hb⟩)]
theorem wrongE_end {p : Int} {pts : List (Int × Int)} (h : primeE p = 0) (h2 : ¬ 13 < pts.length) (hg : ∀ (j : Nat) (v : Int × Int), pts[j]? = some v → badP p v = false) : wrongE p pts = if (pts.map (·.1)).Nodup then 0 else 4 := by
  have e : pts.any (badP p) = false := by
    rw [List.any_eq_false]
    intro x hx
    obtain ⟨j, hj, rfl⟩ := List.mem_iff_getElem.1 hx
    simp [hg j _ (List.getElem?_eq_getElem hj)]
  unfold wrongE; rw [if_neg (by simpa using h), if_neg h2, e]
  simp
theorem law_i64 : Keyed Try.prog 2 := int_keyed (P := Try.prog) (q := .i64) (by kernel_rfl)
theorem zero_int (w : World) : (zeroValue 3).run Try.prog w = .ok (.int .i64 0) w := by kernel_rfl
set_option maxRecDepth 100000 in
set_option maxHeartbeats 6400000 in
theorem poly_wrong (p : Int) (a : Option Addr) (c : Nat) (pts : List (Int × Int)) (w : World) (h : RowP w a c pts) (hl : pts.length ≤ maxLen) :
    Calls Try.prog 48 #[.int .i64 p, .slice a pts.length c] w fun e w' => e = .returned (.int .i64 (wrongE p pts)) ∧ Below w.heap.size w w' := by
  unfold maxLen at hl
  have HP := Lib.hid fun w => poly_prime p w
  by_cases h0 : primeE p = 0
  · by_cases hlong : 13 < pts.length
    · have e : wrongE p pts = 1 := by unfold wrongE; rw [if_neg (by simpa using h0), if_pos hlong]
      rw [e]
      rw [h0] at HP
      obtain ⟨L, hL⟩ : ∃ L, pts.length = L := ⟨_, rfl⟩
      rw [hL] at hl hlong ⊢
      have d1 : decide (13 < (L : Int)) = true := decide_eq_true (by omega)
      clear e h0 h hL
      go_enter Try.func48, Try.ntmps48
      go_wp2_with fail
      refine (HP.out _).mono ?_
      rintro e w1 ⟨rfl, hb1⟩
      go_wp2
      go_ret
      exact ⟨rfl, hb1⟩
    · have HB := Lib.hid fun j v => wrongE_bad h0 hlong j v
      have HE := Lib.hid (wrongE_end h0 hlong)
      have HR := Lib.hid h
      have hp := primeE_zero h0
      obtain ⟨T, hT⟩ : ∃ T, wrongE p pts = T := ⟨_, rfl⟩
      rw [hT] at HB HE ⊢
      rw [h0] at HP
      obtain ⟨L, hL⟩ : ∃ L, pts.length = L := ⟨_, rfl⟩
      have HL := Lib.hid hL
      rw [hL] at hl hlong ⊢
      have d1 : decide (13 < (L : Int)) = false := decide_eq_false (by omega)
      have p2 := hp.2.1
      have p1 := hp.1
      have hlen : L ≤ 13 := by omega
      clear h0 h hL hT hp hlong
      have hmm := @run_makeMap Try.prog
      have um : Try.prog.underlying 96 = some (.map 2 3) := by kernel_rfl
      have ui : Try.prog.underlying 3 = some (.int .i64) := by kernel_rfl
      have uk : Try.prog.underlying 2 = some (.int .i64) := by kernel_rfl
      go_enter Try.func48, Try.ntmps48
      go_wp2_with fail
      refine (HP.out _).mono ?_
      rintro e w1 ⟨rfl, hb1⟩
      go_wp2
      go_loopw [20] (fun i wr => ∃ (I : Nat) (D : DataW Unit), i = .int .i64 I ∧ I ≤ L ∧ Below w1.heap.size w1 wr ∧ wr.ownsMap Try.prog 2 (plainElem Try.prog 3) w1.heap.size I D ∧ Seen D ((pts.take I).map (·.1)) ∧ Hid (∀ (j : Nat) (v : Int × Int), j < I → pts[j]? = some v → badP p v = false)) (fun i _ => L - (intOf i).toNat)
      case atStart => exact ⟨0, .map [], rfl, Nat.zero_le _, (Below.refl _ _).alloc (Nat.le_refl _) _, World.ownsMap_made _ _ _ _, Seen.nil, Lib.hid fun j v hj => absurd hj (Nat.not_lt_zero _)⟩
      case round =>
        obtain ⟨I, D, rfl, hI, hb, hown, hseen, HZ⟩ := hrel
        by_cases hlt : I < L
        · obtain ⟨v, hv⟩ : ∃ v, pts[I]? = some v := ⟨_, List.getElem?_eq_getElem (by rw [HL.out]; omega)⟩
          obtain ⟨b, o, rfl, hcell⟩ := ((HR.out.below hb1 (Nat.le_refl _)).below hb (Nat.le_refl _)).shape (by rw [HL.out]; omega)
          obtain ⟨kx, ky⟩ := hcell I v hv
          have HV := Lib.hid hv
          have HBV := Lib.hid (HB.out I v hv)
          have hts : (pts.take (I + 1)).map (·.1) = (pts.take I).map (·.1) ++ [v.1] := by rw [List.take_add_one, hv, List.map_append]; rfl
          have HTS := Lib.hid hts
          have HSeen := Lib.hid hseen
          have hz := hb.size
          obtain ⟨x, y⟩ := v
          simp only at kx ky HTS
          have HBd := Lib.hid (show badP p (x, y) = (badB p x || badB p y) from rfl)
          have hcase : (x < 0 ∨ p ≤ x ∨ y < 0 ∨ p ≤ y) ∨ (0 ≤ x ∧ x < p ∧ 0 ≤ y ∧ y < p) := by omega
          clear hcell hv hts hseen
          rcases hcase with hbad | ⟨x1, x2, y1, y2⟩
          · have HF : Hid (T = 2) := Lib.hid (HBV.out (by rw [HBd.out]; simp [badB]; omega))
            by_cases hxy : x < y <;> by_cases c1 : x < 0 <;> by_cases c2 : y < 0 <;> by_cases c3 : p ≤ x <;> by_cases c4 : p ≤ y <;> first | (exfalso; omega) | skip
            all_goals go_wp2
            all_goals
              go_ret
              exact ⟨by rw [HF.out]; rfl, below_two hb1 (hb.alloc (by omega) _)⟩
          · have hkey : keyOf Try.prog 2 (.int .i64 x) = some (.int .i64 x) := keyOf_int_mk uk (WalkArith.wf_i64 (by omega))
            have HG : Hid (badP p (x, y) = false) := Lib.hid (by rw [HBd.out]; simp [badB]; omega)
            by_cases hxy : x < y
            all_goals
              go_wp2_with (first
                | (at_lookup; refine wpList_lookup_own_int _ rfl _ _ 96 rfl 2 3 .i64 law_i64 um ui (zero_int _) w1.heap.size I _ rfl (hown.alloc _) _ _ rfl hkey ?_; intro cc hat hwc)
                | (at_mapUpdate; refine wpList_mapUpdate_own _ rfl _ _ _ 96 rfl 2 3 law_i64 um _ w1.heap.size I _ rfl (hown.alloc _) (by unfold maxLen; omega) _ _ _ rfl rfl hkey _ [] (plainElem_int ui (wrap64_wf _)) ?_; intro w2 hown2 hgrow2))
            all_goals
              go_round
              case rel => exact ⟨I + 1, _, by go_num, by omega, (hb.alloc (by omega) _).grown hgrow2 (by simp; omega) (fun j hj => by cases hj; exact Nat.le_refl _), hown2, by rw [HTS.out]; exact HSeen.out.put (hown.tidy law_i64) _ _, Lib.hid fun j u hj hu => by
                by_cases e : j = I
                · subst e; rw [HV.out] at hu; cases hu; exact HG.out
                · exact HZ.out j u (by omega) hu⟩
              case measure => simp [intOf]; omega
        · obtain rfl : I = L := by omega
          have HF := Lib.hid (HE.out fun j v hj => HZ.out j v (by rw [← HL.out]; exact (List.getElem?_eq_some_iff.1 hj).1) hj)
          have hpt : pts.take I = pts := by rw [← HL.out, List.take_length]
          rw [hpt] at hseen
          have hn := hseen.eq
          have hle := hseen.le
          rw [List.length_map, HL.out] at hn hle
          obtain ⟨S, hS⟩ : ∃ S, Maps.size D = S := ⟨_, rfl⟩
          rw [hS] at hn hle
          have HS := Lib.hid hS
          clear hS hseen hpt HE HZ
          by_cases hd : (pts.map (·.1)).Nodup
          · have hSI := hn.2 hd
            have HT : Hid (T = 0) := Lib.hid (by rw [HF.out, if_pos hd])
            have HS2 : Hid (Maps.size D = I) := Lib.hid (HS.out.trans hSI)
            clear hn hd HF
            go_wp2_with (first
              | (at_len; refine wpList_len_own _ rfl _ 96 rfl 2 3 um _ w1.heap.size I D rfl hown ?_; rw [HS2.out]))
            go_ret
            exact ⟨by rw [HT.out]; rfl, below_two hb1 hb⟩
          · have hSI : S < I := by
              rcases Nat.lt_or_ge S I with h | h
              · exact h
              · exact absurd (hn.1 (by omega)) hd
            have HT : Hid (T = 4) := Lib.hid (by rw [HF.out, if_neg hd])
            clear hn hd HF
            go_wp2_with (first
              | (at_len; refine wpList_len_own _ rfl _ 96 rfl 2 3 um _ w1.heap.size I D rfl hown ?_; rw [HS.out]))
            go_ret
            exact ⟨by rw [HT.out]; rfl, below_two hb1 hb⟩
  · have e : wrongE p pts = primeE p := by unfold wrongE; rw [if_pos h0]
    rw [e]
    obtain ⟨t, ht⟩ : ∃ t, primeE p = t := ⟨_, rfl⟩
    rw [ht] at HP h0 ⊢
    obtain ⟨L, hL⟩ : ∃ L, pts.length = L := ⟨_, rfl⟩
    rw [hL] at hl ⊢
    have e1 : (t == 0) = false := by simpa using h0
    have e2 : (t != 0) = true := by simpa using h0
    clear e h0 h hL ht
    go_enter Try.func48, Try.ntmps48
    go_wp2_with fail
    refine (HP.out _).mono ?_
    rintro e w1 ⟨rfl, hb1⟩
    go_wp2
    go_ret
    exact ⟨rfl, hb1⟩
end Go.Proofs.Ytfgmnlphejpcaaa

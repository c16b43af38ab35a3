/- Maps that count; contracts: pad.counted, maps.Equal. -/
import Derived.Test.YtabhmhojlhagcaaPadC
import Derived.Test.YtabhmhojlhagcaaNum1
import Derived.Maps.OwnSet
import Derived.Maps.OwnOps
import Derived.Maps.RangeWalk
import Derived.WalkSpells
namespace Go.Proofs.Ytabhmhojlhagcaa
open Go.RowKit Go.Maps Go.WideMaps
set_option linter.unusedVariables false
set_option linter.unusedSimpArgs false
/-- how often each number stands in a list -/
structure Cnt (D : DataW Unit) (xs : List Int) : Prop where
  has : ∀ x : Int, Maps.has D (.int .i64 x) = decide (x ∈ xs)
  val : ∀ x : Int, D.atKey (.int .i64 x) (.lit (.int .i64 0)) = .lit (.int .i64 (xs.count x))
  keys : ∃ l : List Int, l.Nodup ∧ (∀ x, x ∈ l ↔ x ∈ xs) ∧ l.length = Maps.size D
theorem Cnt.nil : Cnt (.map []) [] := ⟨fun x => by simp [has_eq], fun x => by rw [atKey_of_not_has (by simp [has_eq])]; rfl, [], by simp, by simp, by simp [size_eq]⟩
theorem Cnt.put {D : DataW Unit} {xs : List Int} (h : Cnt D xs) (ht : Tidy D) (x : Int) : Cnt (D.put (.int .i64 x) (.lit (.int .i64 ((xs.count x : Int) + 1)))) (xs ++ [x]) := by
  refine ⟨fun y => ?_, fun y => ?_, ?_⟩
  · by_cases e : y = x
    · subst e
      rw [has_put_same ht.isMap (by simp [WideAt.IsKeyLit])]
      simp
    · rw [has_put_other (fun e2 => e (by injection e2)), h.has]
      simp [e]
  · by_cases e : y = x
    · subst e
      rw [atKey_put_same ht.isMap (by simp [WideAt.IsKeyLit])]
      simp [List.count_append]
    · rw [atKey_put_other (fun e2 => e (by injection e2)), h.val]
      simp [List.count_append, List.count_cons, Ne.symm e]
  · obtain ⟨l, h1, h2, h3⟩ := h.keys
    rw [size_put ht, h.has]
    by_cases e : x ∈ xs
    · rw [if_pos (by simpa using e)]
      exact ⟨l, h1, fun y => by rw [h2, List.mem_append, List.mem_singleton]; exact ⟨.inl, fun g => g.elim id (fun e2 => e2 ▸ e)⟩, h3⟩
    · rw [if_neg (by simpa using e)]
      refine ⟨l ++ [x], ?_, fun y => by simp [h2], by simp [h3]⟩
      rw [List.nodup_append]
      exact ⟨h1, by simp, fun a ha b hb e2 => by simp at hb; subst hb; subst e2; exact e ((h2 a).1 ha)⟩
theorem Cnt.le {D : DataW Unit} {xs : List Int} (h : Cnt D xs) : Maps.size D ≤ xs.length := by
  obtain ⟨l, h1, h2, h3⟩ := h.keys
  rw [← h3]; exact M.length_le_of_inj l xs h1 fun x hx => (h2 x).1 hx
theorem Cnt.eq {D : DataW Unit} {xs : List Int} (h : Cnt D xs) : Maps.size D = xs.length ↔ xs.Nodup := by
  obtain ⟨l, h1, h2, h3⟩ := h.keys
  rw [← h3]
  constructor
  · intro e
    exact (M.perm_of_inj l xs h1 (fun x hx => (h2 x).1 hx) (by omega)).nodup_iff.1 h1
  · intro hn
    exact Nat.le_antisymm (M.length_le_of_inj l xs h1 fun x hx => (h2 x).1 hx) (M.length_le_of_inj xs l hn fun x hx => (h2 x).2 hx)
/-- do all numbers stand as often in both lists? -/
def sameC (xs ys : List Int) : Bool := (xs ++ ys).all fun x => xs.count x == ys.count x
theorem sameC_iff {xs ys : List Int} : sameC xs ys = true ↔ ∀ x, xs.count x = ys.count x := by
  unfold sameC
  rw [List.all_eq_true]
  constructor
  · intro h x
    by_cases e : x ∈ xs ++ ys
    · simpa using h x e
    · rw [List.mem_append] at e
      rw [List.count_eq_zero.2 (fun g => e (.inl g)), List.count_eq_zero.2 (fun g => e (.inr g))]
  · intro h x _; simpa using h x
theorem sameC_no {xs ys : List Int} {x : Int} (h : xs.count x ≠ ys.count x) : sameC xs ys = false := by
  cases e : sameC xs ys with
  | false => rfl
  | true => exact absurd (sameC_iff.1 e x) h
theorem mem_of_same {xs ys : List Int} (h : ∀ x, xs.count x = ys.count x) {x : Int} (hx : x ∈ xs) : x ∈ ys := by
  have := List.count_pos_iff.2 hx
  rw [h x] at this
  exact List.count_pos_iff.1 this
theorem Cnt.sizes {D1 D2 : DataW Unit} {xs ys : List Int} (h1 : Cnt D1 xs) (h2 : Cnt D2 ys) (h : Maps.size D1 ≠ Maps.size D2) : sameC xs ys = false := by
  cases e : sameC xs ys with
  | false => rfl
  | true =>
    have hs := sameC_iff.1 e
    obtain ⟨l, a1, a2, a3⟩ := h1.keys
    obtain ⟨m, b1, b2, b3⟩ := h2.keys
    refine absurd ?_ h
    rw [← a3, ← b3]
    exact Nat.le_antisymm (M.length_le_of_inj l m a1 fun x hx => (b2 x).2 (mem_of_same hs ((a2 x).1 hx))) (M.length_le_of_inj m l b1 fun x hx => (a2 x).2 (mem_of_same (fun x => (hs x).symm) ((b2 x).1 hx)))
theorem Cnt.all {D1 D2 : DataW Unit} {xs ys : List Int} (h1 : Cnt D1 xs) (h2 : Cnt D2 ys) (h : Maps.size D1 = Maps.size D2) (hx : ∀ x ∈ xs, x ∈ ys ∧ xs.count x = ys.count x) : sameC xs ys = true := by
  obtain ⟨l, a1, a2, a3⟩ := h1.keys
  obtain ⟨m, b1, b2, b3⟩ := h2.keys
  have hp := M.perm_of_inj l m a1 (fun x g => (b2 x).2 (hx x ((a2 x).1 g)).1) (by omega)
  refine sameC_iff.2 fun x => ?_
  by_cases e : x ∈ xs
  · exact (hx x e).2
  · have e2 : x ∉ ys := fun g => e ((a2 x).1 (hp.mem_iff.2 ((b2 x).2 g)))
    rw [List.count_eq_zero.2 e, List.count_eq_zero.2 e2]
theorem ownsMap_below {H : Type} {w w' : World} {P : Program} {k : TypeId} {R : Value → Option (DataW H × List MemPlace)} {b n : Nat} {D : DataW H} (h : w.ownsMap P k R b n D) (hb : Below w.heap.size w w') : w'.ownsMap P k R b n D := by
  have hl := h.lt
  obtain ⟨es, clock, h1, h2, h3, h4⟩ := h
  exact ⟨es, clock, by rw [hb.block b hl]; exact h1, h2, h3, h4⟩
theorem lit_inj {a b : Int} (h : (DataW.lit (.int .i64 a) : DataW Unit) = .lit (.int .i64 b)) : a = b := by
  injection h with e
  injection e
theorem key_i64 : Keyed Try.prog 3 := int_keyed (P := Try.prog) (q := .i64) (by kernel_rfl)
theorem zero_i64 (w : World) : (zeroValue 3).run Try.prog w = .ok (.int .i64 0) w := by kernel_rfl
set_option maxHeartbeats 3200000 in
theorem pad_counted (a : Option Addr) (c : Nat) (xs : List Int) (w : World) (L : Nat) (h : RowL w a c xs) (hL : xs.length = L) (hl : L ≤ 1000) (hr : ∀ x ∈ xs, -9223372036854775808 ≤ x ∧ x ≤ 9223372036854775807) :
    Calls Try.prog 37 #[.slice a L c] w fun e w' => e = .returned (.map (some w.heap.size)) ∧ Below w.heap.size w w' ∧ ∃ D : DataW Unit, w'.ownsMap Try.prog 3 (plainElem Try.prog 3) w.heap.size L D ∧ Cnt D xs := by
  have HR := Lib.hid h
  have HL := Lib.hid hL
  have HX := Lib.hid hr
  have hmm := @run_makeMap Try.prog
  have um : Try.prog.underlying 58 = some (.map 3 3) := by kernel_rfl
  have ui : Try.prog.underlying 3 = some (.int .i64) := by kernel_rfl
  clear h hL hr
  go_enter Try.func37, Try.ntmps37
  go_wp2
  go_loopw [9] (fun i wr => ∃ (I : Nat) (D : DataW Unit), i = .int .i64 I ∧ I ≤ L ∧ Below w.heap.size w wr ∧ wr.ownsMap Try.prog 3 (plainElem Try.prog 3) w.heap.size I D ∧ Cnt D (xs.take I)) (fun i _ => L - (intOf i).toNat)
  case atStart => exact ⟨0, .map [], rfl, Nat.zero_le _, (Below.refl _ _).alloc (Nat.le_refl _) _, World.ownsMap_made _ _ _ _, Cnt.nil⟩
  case round =>
    obtain ⟨I, D, rfl, hI, hb, hown, hc⟩ := hrel
    by_cases hlt : I < L
    · obtain ⟨x, hx⟩ : ∃ x, xs[I]? = some x := ⟨_, List.getElem?_eq_getElem (by rw [HL.out]; exact hlt)⟩
      obtain ⟨b, o, rfl, hcell⟩ := (HR.out.below hb (Nat.le_refl _)).shape (by rw [HL.out]; omega)
      have kx := hcell I x hx
      have hxr := HX.out x (List.mem_of_getElem? hx)
      have hkey : keyOf Try.prog 3 (.int .i64 x) = some (.int .i64 x) := keyOf_int_mk ui (WalkArith.wf_i64 (by omega))
      have HTS : Hid (xs.take (I + 1) = xs.take I ++ [x]) := Lib.hid (by rw [List.take_add_one, hx]; rfl)
      have HV := Lib.hid (hc.val x)
      have HC := Lib.hid hc
      have kb : (xs.take I).count x ≤ I := Nat.le_trans List.count_le_length (by rw [List.length_take]; omega)
      obtain ⟨q, hq⟩ : ∃ q, (xs.take I).count x = q := ⟨_, rfl⟩
      have HQ := Lib.hid hq
      rw [hq] at HV kb
      have hz := hb.size
      clear hcell hx hc hq hxr
      have hwf : (Lit.int .i64 ((q : Int) + 1)).wf = true := WalkArith.wf_i64 (by omega)
      have HWF := Lib.hid hwf
      clear hwf
      have i1 : (0 : Int) ≤ I := by omega
      have i2 : (I : Int) < L := by omega
      go_wp2_with (first
        | (at_lookup; refine wpList_lookup_own_int _ rfl _ _ 58 rfl 3 3 .i64 key_i64 um ui (zero_i64 _) w.heap.size I _ rfl hown _ _ rfl hkey ?_; intro cc hat hwc; rw [HV.out] at hat; obtain rfl : cc = (q : Int) := (lit_inj hat).symm; clear hat hwc)
        | (at_mapUpdate; refine wpList_mapUpdate_own _ rfl _ _ _ 58 rfl 3 3 key_i64 um _ w.heap.size I _ rfl hown (by unfold maxLen; omega) _ _ _ rfl rfl hkey _ [] (plainElem_int ui HWF.out) ?_; intro w2 hown2 hgrow2))
      go_round
      case rel => exact ⟨I + 1, _, by go_num, by omega, hb.grown hgrow2 hz (fun j hj => by cases hj; exact Nat.le_refl _), hown2, by rw [HTS.out, ← HQ.out]; exact HC.out.put (hown.tidy key_i64) x⟩
      case measure => simp [intOf]; omega
    · obtain rfl : I = L := by omega
      have HC : Hid (Cnt D xs) := Lib.hid (by rw [List.take_of_length_le (by rw [HL.out]; exact Nat.le_refl _)] at hc; exact hc)
      clear hc
      go_wp2
      go_ret
      exact ⟨rfl, hb, D, hown, HC.out⟩
set_option maxHeartbeats 3200000 in
theorem maps_EqualI (b1 b2 n1 n2 : Nat) (D1 D2 : DataW Unit) (xs ys : List Int) (w : World) (h1 : w.ownsMap Try.prog 3 (plainElem Try.prog 3) b1 n1 D1) (h2 : w.ownsMap Try.prog 3 (plainElem Try.prog 3) b2 n2 D2) (c1 : Cnt D1 xs) (c2 : Cnt D2 ys) :
    Calls Try.prog 40 #[.map (some b1), .map (some b2)] w fun e w' => e = .returned (.bool (sameC xs ys)) ∧ Below w.heap.size w w' := by
  have um : Try.prog.underlying 58 = some (.map 3 3) := by kernel_rfl
  have ui : Try.prog.underlying 3 = some (.int .i64) := by kernel_rfl
  have HS := Lib.hid (Cnt.sizes c1 c2)
  have HA := Lib.hid (Cnt.all c1 c2)
  have HN := Lib.hid fun x => @sameC_no xs ys x
  have C1 := Lib.hid c1
  have C2 := Lib.hid c2
  obtain ⟨T, hT⟩ : ∃ T, sameC xs ys = T := ⟨_, rfl⟩
  rw [hT] at HS HA HN ⊢
  have l1 := fun ty => h1.len (t := 58) um ty
  have l2 := fun ty => h2.len (t := 58) um ty
  have hlt2 := h2.lt
  clear hT c1 c2
  by_cases hsz : Maps.size D1 = Maps.size D2
  · have HSZ := Lib.hid hsz
    obtain ⟨s, hs⟩ : ∃ s, Maps.size D1 = s := ⟨_, rfl⟩
    rw [← hsz] at l2
    clear hsz
    go_enter Try.func40, Try.ntmps40
    go_wp2_with (first
      | (at_range; refine wpList_range_own _ rfl _ 58 rfl 3 3 key_i64 um _ b1 n1 _ rfl h1 ?_; intro w0 hrg0 hg0 hs0)
      | go_in)
    go_frame
    go_loopw [18] (fun _ wr => ∃ (left : Lit → Bool) (cnt : Nat), wr.ranges Try.prog 3 (plainElem Try.prog 3) b1 w.heap.size n1 D1 left cnt ∧ wr.ownsMap Try.prog 3 (plainElem Try.prog 3) b2 n2 D2 ∧ w.grownBy wr none ∧ Hid (∀ x, x ∈ xs → left (.int .i64 x) = false → x ∈ ys ∧ xs.count x = ys.count x))
      (fun _ wr => wr.rangeLeft b1 w.heap.size)
    case atStart => exact ⟨_, _, hrg0, h2.kept hg0 (by simp), hg0, Lib.hid fun x hx hl => by rw [C1.out.has] at hl; simp [hx] at hl⟩
    case round =>
      obtain ⟨left, cnt, hrg, h2r, hgw, G⟩ := hrel
      go_wp2_with (first
        | (at_next; refine wpList_next_ranges_ii _ rfl _ rfl 3 3 .i64 .i64 key_i64 ui ui b1 w.heap.size n1 _ _ _ rfl hrg ?_ ?_)
        | go_in)
      · intro _ hl0
        have HT : Hid (T = true) := Lib.hid (HA.out HSZ.out fun x hx => G.out x hx (hl0 _))
        go_wp2
        go_ret
        exact ⟨by rw [HT.out]; rfl, (Below.refl _ _).grown hgw (Nat.le_refl _) (fun j hj => by cases hj)⟩
      · intro x cc w1 cnt1 hwx hwc hlx hat hrg1 hlt hg1 hs1 hen
        have hgw1 : w.grownBy w1 none := hgw.andThen hg1 (fun j hj => by cases hj; exact Or.inl (Nat.le_refl _))
        have h2w1 := h2r.kept hg1 (fun e => by have := Option.some.inj e; omega)
        have hv := C1.out.val x
        rw [hat] at hv
        have hcc : cc = (xs.count x : Int) := lit_inj hv
        have hmem : x ∈ xs := by
          have := has_true_of_atKey hat
          rw [C1.out.has] at this
          simpa using this
        have HLX := Lib.hid hlx
        have hkey : keyOf Try.prog 3 (.int .i64 x) = some (.int .i64 x) := keyOf_int_mk ui hwx
        have HM := Lib.hid hmem
        obtain ⟨p, hp⟩ : ∃ p, xs.count x = p := ⟨_, rfl⟩
        rw [hp] at hcc
        have HP := Lib.hid hp
        obtain ⟨q, hq⟩ : ∃ p, ys.count x = p := ⟨_, rfl⟩
        have HQ := Lib.hid hq
        have HV2 : Hid (D2.atKey (.int .i64 x) (.lit (.int .i64 0)) = .lit (.int .i64 (q : Int))) := Lib.hid (by rw [C2.out.val, hq])
        have HH2 : Hid (Maps.has D2 (.int .i64 x) = decide (x ∈ ys)) := Lib.hid (C2.out.has x)
        subst hcc
        clear hat hv hlx hp hq hmem
        by_cases hy : x ∈ ys
        · have HY := Lib.hid hy
          have HHT : Hid (Maps.has D2 (.int .i64 x) = true) := Lib.hid (by rw [HH2.out]; simpa using hy)
          clear hy
          by_cases hpq : p = q
          · subst hpq
            go_wp2_with (first
              | (at_lookup; refine wpList_lookup_own_ok_int _ rfl _ _ 58 rfl 3 3 .i64 key_i64 um ui (zero_i64 _) b2 n2 D2 rfl h2w1 _ _ rfl hkey ?_; intro c2' hat2 hwc2; rw [HV2.out] at hat2; obtain rfl : c2' = (p : Int) := (lit_inj hat2).symm; clear hat2 hwc2; rw [HHT.out]; go_frame)
              | go_in)
            go_roundw
            case rel =>
              refine ⟨_, cnt1, hrg1, h2w1, hgw1, Lib.hid fun z hz hlz => ?_⟩
              cases hl : left (.int .i64 z) with
              | false => exact G.out z hz hl
              | true =>
                rw [hl] at hlz
                have hs : (Lit.int .i64 z).sameKey (.int .i64 x) = true := by simpa using hlz
                have e1 := WideAt.sameKey_eq hs
                injection e1 with e2 e3
                subst e3
                exact ⟨HY.out, by rw [HP.out, HQ.out]⟩
            case measure => rw [hrg1.left_eq, hrg.left_eq]; exact hlt
          · have HT : Hid (T = false) := Lib.hid (HN.out x (by rw [HP.out, HQ.out]; exact hpq))
            have e1 : (p == q) = false := by simpa using hpq
            have e2 : ((p : Int) == q) = false := by simp; omega
            have e3 : ((p : Int) != q) = true := by simp; omega
            clear hpq
            go_wp2_with (first
              | (at_lookup; refine wpList_lookup_own_ok_int _ rfl _ _ 58 rfl 3 3 .i64 key_i64 um ui (zero_i64 _) b2 n2 D2 rfl h2w1 _ _ rfl hkey ?_; intro c2' hat2 hwc2; rw [HV2.out] at hat2; obtain rfl : c2' = (q : Int) := (lit_inj hat2).symm; clear hat2 hwc2; rw [HHT.out]; go_frame)
              | go_in)
            go_ret
            exact ⟨by rw [HT.out]; rfl, (Below.refl _ _).grown hgw1 (Nat.le_refl _) (fun j hj => by cases hj)⟩
        · have HT : Hid (T = false) := Lib.hid (HN.out x (by
            have := List.count_pos_iff.2 HM.out
            have := List.count_eq_zero.2 hy
            omega))
          have HHF : Hid (Maps.has D2 (.int .i64 x) = false) := Lib.hid (by rw [HH2.out]; simpa using hy)
          clear hy
          go_wp2_with (first
            | (at_lookup; refine wpList_lookup_own_ok_int _ rfl _ _ 58 rfl 3 3 .i64 key_i64 um ui (zero_i64 _) b2 n2 D2 rfl h2w1 _ _ rfl hkey ?_; intro c2' hat2 hwc2; rw [HHF.out]; go_frame)
            | go_in)
          go_ret
          exact ⟨by rw [HT.out]; rfl, (Below.refl _ _).grown hgw1 (Nat.le_refl _) (fun j hj => by cases hj)⟩
  · have HT : Hid (T = false) := Lib.hid (HS.out hsz)
    have hne : ¬ ((Maps.size D1 : Int) = (Maps.size D2 : Int)) := fun e => hsz (by exact_mod_cast e)
    clear hsz
    go_enter Try.func40, Try.ntmps40
    go_wp2
    go_ret
    exact ⟨by rw [HT.out]; rfl, Below.refl _ _⟩
end Go.Proofs.Ytabhmhojlhagcaa

/- pratt.need: a map of values as its datum holds them. -/
import Derived.Test.YtceocooppjfjjaaFct
import Derived.Test.YtceocooppjfjjaaKeysP
import Derived.Maps.OwnSet
import Derived.Maps.OwnOps
namespace Go.Proofs.Ytceocooppjfjjaa
open Go.RowKit Go.Maps Go.WideMaps
set_option linter.unusedVariables false
set_option linter.unusedSimpArgs false
/-- every old block but one is as it was -/
structure Butc (cb : Nat) (w w' : World) : Prop where
  bel : Below cb w w'
  size : w.heap.size ≤ w'.heap.size
  block : ∀ k, k < w.heap.size → k ≠ cb → w'.heap[k]? = w.heap[k]?
theorem Butc.refl (cb : Nat) (w : World) : Butc cb w w := ⟨Below.refl _ _, Nat.le_refl _, fun _ _ _ => rfl⟩
theorem Butc.trans {cb : Nat} {a b c : World} (h : Butc cb a b) (k : Butc cb b c) : Butc cb a c :=
  ⟨h.bel.trans k.bel, Nat.le_trans h.size k.size, fun j hj hn => (k.block j (Nat.lt_of_lt_of_le hj h.size) hn).trans (h.block j hj hn)⟩
theorem Butc.below {cb : Nat} {a b : World} (h : Below a.heap.size a b) (hcb : cb < a.heap.size) : Butc cb a b :=
  ⟨h.mono (Nat.le_of_lt hcb), h.size, fun j hj _ => h.block j hj⟩
theorem Butc.grown {cb : Nat} {a b : World} (h : a.grownBy b (some cb)) (hcb : cb < a.heap.size) : Butc cb a b :=
  ⟨(Below.refl cb a).grown h (Nat.le_of_lt hcb) (fun j e => by injection e with e; omega), h.size, fun k hk hn => h.block k hk (fun e2 => hn (by injection e2))⟩
theorem own_but {cb : Nat} {W W' : World} {base : Nat} {e : TypeId} {size : Nat} {v : Value} {k : Nat} {xs : List Value} (h : W.ownsRow base e size v k xs) (hb : Butc cb W W') (hcb : cb < base) : W'.ownsRow base e size v k xs := by
  rcases h with ⟨h0, h | ⟨g, cap, cur, h1, h2, h3, h4⟩⟩
  · exact ⟨h0, .inl h⟩
  · exact ⟨h0, .inr ⟨g, cap, cur, h1, h2, (hb.block g (Array.getElem?_eq_some_iff.1 h3).1 (by omega)).trans h3, h4⟩⟩
theorem own_any {W : World} {base k : Nat} {v : Value} {e : TypeId} {xs : List Value} (h : W.ownsRow base e 1 v k xs) : ∃ a c, v = .slice a k c ∧ ∀ (i : Nat) (u : Value), xs[i]? = some u → ∃ g, a = some ⟨g, 0, none⟩ ∧ W.cell? ⟨g, i, none⟩ = some u := by
  by_cases hk : 0 < k
  · obtain ⟨g, cap, rfl, _, _, _, _⟩ := own_shape h hk
    exact ⟨_, cap, rfl, fun i u hu => ⟨g, rfl, own_cell h hu⟩⟩
  · obtain rfl : k = 0 := by omega
    have hl := own_len h
    obtain rfl := List.eq_nil_of_length_eq_zero hl
    rcases h.2 with ⟨h1, h2⟩ | ⟨g, cap, cur, h1, _⟩
    · exact ⟨none, 0, h1, fun i u hu => by simp at hu⟩
    · exact ⟨_, cap, h1, fun i u hu => by simp at hu⟩
abbrev kL (x : Int) : Lit := .int .i64 x
/-- values as they are -/
def vR : Value → Option (DataW Value × List MemPlace) := fun v => some (.held v, [])
def nz : DataW Value := .held (.slice none 0 0)
def vAt (D : DataW Value) (x : Int) : Value := match D.atKey (kL x) nz with | .held v => v | _ => .slice none 0 0
theorem kLaw : Keyed Try.prog 2 := int_keyed Try.underlying2
theorem kwf {N : Nat} (h : N ≤ 1048576) : (Lit.int .i64 (N : Int)).wf = true := WalkArith.wf_i64 (by omega)
theorem kKey {N : Nat} (h : N ≤ 1048576) : keyOf Try.prog 2 (.int .i64 (N : Int)) = some (kL N) := keyOf_int_mk Try.underlying2 (kwf h)
theorem zeroE (w : World) : (zeroValue 31).run Try.prog w = .ok (.slice none 0 0) w := by kernel_rfl
theorem nm_ok {W : World} {b n : Nat} {D : DataW Value} (h : W.ownsMap Try.prog 2 vR b n D) {N : Nat} (hN : N ≤ 1048576) : (Instr.lookup 74 (.map (some b)) (.int .i64 (N : Int)) true).run Try.prog W = .ok (.tuple #[vAt D N, .bool (Maps.has D (kL N))]) W := by
  obtain ⟨v, ps, hrun, hv⟩ := h.look_ok kLaw Try.underlying74 (zeroE W) (zd := nz) (zp := []) rfl (kKey hN)
  have e : D.atKey (kL N) nz = .held v := by
    simp only [vR, Option.some.injEq, Prod.mk.injEq] at hv; exact hv.1.symm
  rw [hrun]
  have : vAt D N = v := by unfold vAt; rw [e]
  rw [this]
theorem nm_look {W : World} {b n : Nat} {D : DataW Value} (h : W.ownsMap Try.prog 2 vR b n D) {N : Nat} (hN : N ≤ 1048576) : (Instr.lookup 74 (.map (some b)) (.int .i64 (N : Int)) false).run Try.prog W = .ok (vAt D N) W := by
  obtain ⟨v, ps, hrun, hv⟩ := h.lookup kLaw Try.underlying74 (zeroE W) (zd := nz) (zp := []) rfl (kKey hN)
  have e : D.atKey (kL N) nz = .held v := by
    simp only [vR, Option.some.injEq, Prod.mk.injEq] at hv; exact hv.1.symm
  rw [hrun]
  have : vAt D N = v := by unfold vAt; rw [e]
  rw [this]
theorem keys_facts {W : World} {b n : Nat} {D : DataW Value} {R : Value → Option (DataW Value × List MemPlace)} (h : W.ownsMap Try.prog 2 R b n D) : (intKeys D).Nodup ∧ (∀ x, x ∈ intKeys D ↔ Maps.has D (kL x) = true) ∧ (intKeys D).length = Maps.size D := by
  obtain ⟨es, hD, hpw, _⟩ := h.entries kLaw
  obtain ⟨es', hD', hko⟩ := h.keysOf
  obtain rfl : es = es' := by rw [hD] at hD'; simpa using hD'
  subst hD
  have hk : ∀ p ∈ es, ∃ x, p.1 = .int .i64 x := fun p hp => by
    obtain ⟨v, hv⟩ := hko p hp
    obtain ⟨x, _, hx, _⟩ := Maps.keyOf_i64 Try.underlying2 hv
    exact ⟨x, hx⟩
  refine ⟨?_, fun x => ?_, by simp [intKeys, Maps.size]⟩
  · show (es.map fun p => Go.intOf p.1).Nodup
    refine List.pairwise_map.2 (hpw.imp_of_mem fun {p q} hp' hq' hne e => hne ?_)
    obtain ⟨a, ha⟩ := hk p hp'
    obtain ⟨b, hb⟩ := hk q hq'
    rw [ha, hb] at e ⊢
    exact congrArg _ e
  · rw [has_eq, List.any_eq_true]
    show x ∈ es.map (fun p => Go.intOf p.1) ↔ _
    rw [List.mem_map]
    constructor
    · rintro ⟨p, hp', rfl⟩
      obtain ⟨a, ha⟩ := hk p hp'
      exact ⟨p, hp', by rw [ha]; simp [Lit.sameKey, Go.intOf]⟩
    · rintro ⟨p, hp', hs⟩
      obtain ⟨a, ha⟩ := hk p hp'
      rw [ha] at hs
      exact ⟨p, hp', by rw [ha]; simpa [Lit.sameKey, Go.intOf] using hs⟩
/-- the map of what is needed -/
structure NM (W : World) (b : Nat) (D : DataW Value) (U : List Nat) : Prop where
  own : W.ownsMap Try.prog 2 vR b (Maps.size D) D
  keys : ∀ x : Int, Maps.has D (kL x) = true → ∃ N : Nat, x = (N : Int) ∧ N ∈ U
  rows : ∀ N : Nat, Maps.has D (kL N) = true → W.ownsRow (b + 1) 2 1 (vAt D N) (prsI (N - 1)).length (inV (prsI (N - 1)))
theorem own_resize {W : World} {b n : Nat} {D : DataW Value} (h : W.ownsMap Try.prog 2 vR b n D) : W.ownsMap Try.prog 2 vR b (Maps.size D) D := by
  obtain ⟨es, clock, hb, F, hs, rfl⟩ := h
  exact ⟨es, clock, hb, F, by rw [size_eq, length_read]; exact Nat.le_refl _, rfl⟩
theorem NM.size {W : World} {b : Nat} {D : DataW Value} {U : List Nat} (h : NM W b D U) : Maps.size D ≤ U.length := by
  obtain ⟨h1, h2, h3⟩ := keys_facts h.own
  rw [← h3]
  have := M.nodup_len (l := intKeys D) (m := U.map fun n : Nat => (n : Int)) h1 (fun x hx => by
    obtain ⟨N, rfl, hN⟩ := h.keys x ((h2 x).1 hx)
    exact List.mem_map.2 ⟨N, hN, rfl⟩)
  simpa using this
theorem NM.lt {W : World} {b : Nat} {D : DataW Value} {U : List Nat} (h : NM W b D U) : b < W.heap.size := h.own.lt
theorem NM.kept {W W' : World} {b : Nat} {D : DataW Value} {U : List Nat} (h : NM W b D U) (hb : Below W.heap.size W W') : NM W' b D U := by
  have hlt := h.lt
  refine ⟨?_, h.keys, fun N hN => own_keep (h.rows N hN) hb⟩
  obtain ⟨es, clock, hb', F, hs, hD⟩ := h.own
  exact ⟨es, clock, (hb.block b hlt).trans hb', F, hs, hD⟩
/-- what a call of need does to the map -/
structure Grows (D D' : DataW Value) : Prop where
  keep : ∀ N : Nat, Maps.has D (kL N) = true → Maps.has D' (kL N) = true
  shut : ∀ N : Nat, Maps.has D' (kL N) = true → Maps.has D (kL N) = true ∨ ∀ q ∈ M.prs (N - 1), Maps.has D' (kL q) = true
theorem Grows.refl (D : DataW Value) : Grows D D := ⟨fun _ h => h, fun _ h => .inl h⟩
theorem Grows.trans {A B C : DataW Value} (h : Grows A B) (k : Grows B C) : Grows A C :=
  ⟨fun N hN => k.keep N (h.keep N hN), fun N hN => by
    rcases k.shut N hN with h1 | h1
    · rcases h.shut N h1 with h2 | h2
      · exact .inl h2
      · exact .inr fun q hq => k.keep q (h2 q hq)
    · exact .inr h1⟩
theorem kL_ne {M N : Nat} (h : M ≠ N) : kL (M : Int) ≠ kL (N : Int) := fun e => h (by injection e with _ e; omega)
theorem nm_put {W W1 : World} {b p : Nat} {D : DataW Value} {U : List Nat} {v : Value} {n : Nat} (h : NM W b D U) (hp : p ∈ U) (hv : W.ownsRow (b + 1) 2 1 v (prsI (p - 1)).length (inV (prsI (p - 1)))) (ho : W1.ownsMap Try.prog 2 vR b n (D.put (kL p) (.held v))) (hg : W.grownBy W1 (some b)) :
    NM W1 b (D.put (kL p) (.held v)) U ∧ vAt (D.put (kL p) (.held v)) p = v ∧ Maps.has (D.put (kL p) (.held v)) (kL p) = true ∧ ∀ N : Nat, N ≠ p → Maps.has (D.put (kL p) (.held v)) (kL N) = Maps.has D (kL N) := by
  have hm := h.own.isMap
  have hk : WideAt.IsKeyLit (kL p) := by simp [WideAt.IsKeyLit]
  have hb := Butc.grown hg h.lt
  have e1 : vAt (D.put (kL p) (.held v)) p = v := by unfold vAt; rw [atKey_put_same hm hk]
  have e2 : Maps.has (D.put (kL p) (.held v)) (kL p) = true := has_put_same hm hk _
  refine ⟨⟨own_resize ho, fun x hx => ?_, fun N hN => ?_⟩, e1, e2, fun N hN => has_put_other (kL_ne hN) _⟩
  · by_cases e : x = (p : Int)
    · exact ⟨p, e, hp⟩
    · rw [has_put_other (fun e3 => e (by injection e3))] at hx
      exact h.keys x hx
  · by_cases e : N = p
    · subst e
      rw [e1]
      exact own_but hv hb (Nat.lt_succ_self _)
    · rw [has_put_other (kL_ne e)] at hN
      have e3 : vAt (D.put (kL p) (.held v)) N = vAt D N := by unfold vAt; rw [atKey_put_other (kL_ne e)]
      rw [e3]
      exact own_but (h.rows N hN) hb (Nat.lt_succ_self _)
set_option maxRecDepth 20000 in
set_option maxHeartbeats 3200000 in
theorem pratt_need (U : List Nat) (hU : ∀ x ∈ U, M.Pr x ∧ x ≤ 1048576) (hsh : ∀ x ∈ U, ∀ q, M.Pr q → q ∣ x - 1 → q ∈ U) (hlen : U.length ≤ 1000000) (b : Nat) : ∀ (k p : Nat) (D : DataW Value) (W : World), p ≤ k → p ∈ U → NM W b D U →
    Calls Try.prog 46 #[.map (some b), .int .i64 p] W fun e w' => e = .returned (.tuple #[]) ∧ (∃ D', NM w' b D' U ∧ Grows D D' ∧ Maps.has D' (kL p) = true) ∧ Butc b W w' := by
  intro k
  induction k with
  | zero =>
    intro p D W hk hp
    have := (hU p hp).1.1
    omega
  | succ k ih =>
    intro p D W hk hp hN
    have hp2 := (hU p hp).1.1
    have hpb := (hU p hp).2
    have hlk := nm_ok hN.own hpb
    have hsz := hN.size
    have HNM := Lib.hid hN
    have HP := Lib.hid hp
    have HU := Lib.hid hU
    have HSh := Lib.hid hsh
    have HIH := Lib.hid ih
    have hlt := hN.lt
    by_cases hh : Maps.has D (kL p) = true
    · rw [hh] at hlk
      have HH := Lib.hid hh
      clear hU hsh ih hN hh hp
      go_enter Try.func46, Try.ntmps46
      go_wp2_with fail
      refine bodyPost_ret (results_none rfl _ _ _) rfl ?_
      exact ⟨rfl, ⟨D, HNM.out, Grows.refl _, HH.out⟩, Butc.refl _ _⟩
    · have hh2 : Maps.has D (kL p) = false := by simpa using hh
      rw [hh2] at hlk
      have HF := Lib.hid fun w => pratt_factors (p - 1) w (by omega) (by omega)
      rw [show ((p - 1 : Nat) : Int) = (p : Int) - 1 by omega] at HF
      have f1 : IntKind.i64.wrap ((p : Int) - 1) = (p : Int) - 1 := IntWalk.i64_in _ (by omega)
      have f2 : wrap64 ((p : Int) - 1) = (p : Int) - 1 := by unfold wrap64; omega
      clear hU hsh ih hN hh hp hh2
      go_enter Try.func46, Try.ntmps46
      go_wp2_with fail
      refine (HF.out _).mono ?_
      rintro e w1 ⟨⟨v1, rfl, ho1⟩, hb1⟩
      obtain ⟨a1, c1, rfl, hc1⟩ := own_any ho1
      have HN1 := Lib.hid (HNM.out.kept hb1)
      have hown1 := HN1.out.own
      have hpl := prsI_len (p - 1)
      have HO1 := Lib.hid (own_lower (base' := b + 1) ho1 (by omega))
      obtain ⟨n, hn⟩ : ∃ n, (prsI (p - 1)).length = n := ⟨_, rfl⟩
      have hln := fac_len (M.fac_spec (show 0 < p - 1 by omega))
      rw [hn] at hpl
      have hn20 : n ≤ 1048576 := by omega
      rw [hn]
      have HNL := Lib.hid hn
      have hs1 := HN1.out.size
      have HB1 := Lib.hid (Butc.below hb1 hlt)
      clear hc1 ho1 hpl hln hn hb1 hlk
      go_wp2_with (first
        | (at_mapUpdate; refine wpList_mapUpdate_own _ rfl _ _ _ 74 rfl 2 31 kLaw Try.underlying74 vR b (Maps.size D) D rfl hown1 (by unfold maxLen; omega) _ _ (kL p) rfl rfl (kKey hpb) (.held (.slice a1 n c1)) [] rfl ?_
           intro w2 hown2 hg2
           have hput := nm_put HN1.out HP.out (by rw [HNL.out]; have := HO1.out; rw [HNL.out] at this; exact this) hown2 hg2
           have HPut := Lib.hid hput
           have hlk2 := nm_look hput.1.own hpb
           rw [hput.2.1] at hlk2
           have HB2 := Lib.hid (HB1.out.trans (Butc.grown hg2 HN1.out.lt))
           have HO2 := Lib.hid (own_but HO1.out (Butc.grown hg2 HN1.out.lt) (Nat.lt_succ_self _))
           clear hown2 hg2 hput hown1))
      obtain ⟨D1, hD1⟩ : ∃ D1, D.put (kL p) (.held (.slice a1 n c1)) = D1 := ⟨_, rfl⟩
      rw [hD1] at HPut
      clear hD1
      go_loopw [24] (fun iv wr => ∃ (J : Nat) (D' : DataW Value), iv = .int .i64 J ∧ J ≤ n ∧ Hid (NM wr b D' U) ∧ Hid (Grows D1 D') ∧ Hid (∀ q ∈ (M.prs (p - 1)).take J, Maps.has D' (kL q) = true) ∧ Hid (Butc b w2 wr)) (fun iv _ => n - (intOf iv).toNat)
      case atStart => exact ⟨0, D1, rfl, Nat.zero_le _, Lib.hid HPut.out.1, Lib.hid (Grows.refl _), Lib.hid (by simp), Lib.hid (Butc.refl _ _)⟩
      case round =>
        obtain ⟨J, D', rfl, hJ, HM, HG, HQ, HBr⟩ := hrel
        by_cases hJe : J = n
        · subst hJe
          have hall : ∀ q ∈ M.prs (p - 1), Maps.has D' (kL q) = true := fun q hq => HQ.out q (by
            rw [List.take_of_length_le (by have := HNL.out; rw [prsI, List.length_map] at this; omega)]; exact hq)
          have HFin : Hid (Grows D D' ∧ Maps.has D' (kL p) = true) := Lib.hid ⟨⟨fun N hN => by
            refine HG.out.keep N ?_
            by_cases e : N = p
            · subst e; exact HPut.out.2.2.1
            · rw [HPut.out.2.2.2 N e]; exact hN, fun N hN => by
            by_cases e : N = p
            · subst e; exact .inr hall
            · rcases HG.out.shut N hN with h1 | h1
              · rw [HPut.out.2.2.2 N e] at h1; exact .inl h1
              · exact .inr h1⟩, HG.out.keep p HPut.out.2.2.1⟩
          clear hall
          go_wp2_with fail
          refine bodyPost_end (results_none rfl _ _ _) rfl ?_
          exact ⟨rfl, ⟨D', HM.out, HFin.out⟩, HB2.out.trans HBr.out⟩
        · have hJ2 : (J : Int) < n := by omega
          have hJ3 : J < n := by omega
          obtain ⟨q, hq⟩ : ∃ q, (M.prs (p - 1))[J]? = some q := ⟨_, List.getElem?_eq_getElem (by have := HNL.out; rw [prsI, List.length_map] at this; omega)⟩
          have hqm := (M.mem_prs (show 0 < p - 1 by omega)).1 (List.mem_of_getElem? hq)
          have hqU := HSh.out p HP.out q hqm.1 hqm.2
          have hqk : q ≤ k := by have := Nat.le_of_dvd (show 0 < p - 1 by omega) hqm.2; omega
          have hq1 : (inV (prsI (p - 1)))[J]? = some (.int .i64 (q : Int)) := by simp [inV, prsI, hq]
          have hrow := own_but HO2.out HBr.out (Nat.lt_succ_self _)
          obtain ⟨g, cap, he, _, _, _, _⟩ := own_shape hrow (by rw [HNL.out]; omega)
          rw [HNL.out] at he hrow
          injection he with he1 he2 he3
          subst he1 he3
          have kx := own_cell hrow hq1
          have HC := Lib.hid (HIH.out q D' wr hqk hqU HM.out)
          have HTk : Hid ((M.prs (p - 1)).take (J + 1) = (M.prs (p - 1)).take J ++ [q]) := Lib.hid (by rw [List.take_add_one, hq]; rfl)
          clear hq hqm hqU hqk hq1 hrow he2
          go_wp2_with fail
          refine HC.out.mono ?_
          rintro e w5 ⟨rfl, ⟨D2, hN2, hG2, hh2⟩, hB2⟩
          have HN2 := Lib.hid hN2
          have HG2 := Lib.hid (HG.out.trans hG2)
          have HQ2 : Hid (∀ q' ∈ (M.prs (p - 1)).take (J + 1), Maps.has D2 (kL q') = true) := Lib.hid fun q' hq' => by
            rw [HTk.out] at hq'
            rcases List.mem_append.1 hq' with h1 | h1
            · exact hG2.keep q' (HQ.out q' h1)
            · rw [List.mem_singleton.1 h1]; exact hh2
          have HB2r := Lib.hid (HBr.out.trans hB2)
          clear hN2 hG2 hh2 hB2 kx
          go_wp2_with fail
          go_round
          case rel => exact ⟨J + 1, D2, by go_num, by omega, HN2, HG2, HQ2, HB2r⟩
          case measure => simp [intOf]; omega
end Go.Proofs.Ytceocooppjfjjaa

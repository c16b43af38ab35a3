/- Texts of a tree: a row of slices of the call's own; slices.Backward over it; tree.node. -/
import Derived.Test.YtpikjahgnnejmaaTrV
namespace Go.Proofs.Ytpikjahgnnejmaa
open Go.RowKit Go.Shelf
attribute [local go_sem] Oper.semAt_some
set_option linter.unusedVariables false
set_option linter.unusedSimpArgs false
/-- one text behind a value, or none -/
def TxAt (W : World) (base : Nat) (u : Value) : Option (List Nat) → Prop
  | none => u = .slice none 0 0
  | some xs => W.ownsRow base 5 1 u xs.length (byV xs) ∧ 1 ≤ xs.length ∧ xs.length ≤ 4200 ∧ ∀ x ∈ xs, x < 256
/-- texts in a row of the call's own -/
structure Txs (W : World) (base g cap : Nat) (vs : List Value) (L : List (Option (List Nat))) : Prop where
  own : W.ownsRow base 26 1 (.slice (some ⟨g, 0, none⟩) L.length cap) L.length vs
  at' : ∀ (j : Nat) (u : Value) (t : Option (List Nat)), vs[j]? = some u → L[j]? = some t → TxAt W base u t
theorem Txs.below {W W' : World} {base g cap : Nat} {vs : List Value} {L : List (Option (List Nat))} (h : Txs W base g cap vs L) (hb : Below W.heap.size W W') : Txs W' base g cap vs L :=
  ⟨own_keep h.own hb, fun j u t hu ht => by
    have := h.at' j u t hu ht
    cases t with
    | none => exact this
    | some xs => exact ⟨own_keep this.1 hb, this.2⟩⟩
theorem Txs.len {W : World} {base g cap : Nat} {vs : List Value} {L : List (Option (List Nat))} (h : Txs W base g cap vs L) : vs.length = L.length := own_len h.own
def encT (vs : List Value) (k : Nat) : Array Value := #[.int .i64 k, vs.getD k undef]
theorem rev_at {L K : Nat} (h : K < L) : (List.range L).reverse[L - (K + 1)]? = some K := by
  rw [List.getElem?_reverse (by simp; omega), List.length_range, show L - 1 - (L - (K + 1)) = K by omega, List.getElem?_range h]
theorem rev_step {L K : Nat} (h : K < L) : (List.range L).reverse.take (L - (K + 1)) ++ [K] = (List.range L).reverse.take (L - K) := by
  rw [show L - K = L - (K + 1) + 1 by omega, List.take_add_one, rev_at h]; rfl
theorem rev_pre {L : Nat} {pre : List Nat} {x : Nat} (h : pre ++ [x] <+: (List.range L).reverse) : x < L ∧ ∀ j, x < j → j < L → j ∈ pre := by
  obtain ⟨t, ht⟩ := h
  have hx : (List.range L).reverse[pre.length]? = some x := by rw [← ht]; simp
  have hlt : pre.length < L := by have := (List.getElem?_eq_some_iff.1 hx).1; simpa using this
  rw [List.getElem?_reverse (by simpa using hlt), List.length_range, List.getElem?_range (by omega)] at hx
  simp at hx
  refine ⟨by omega, fun j h1 h2 => ?_⟩
  have hj := rev_at h2
  rw [← ht, List.getElem?_append_left (by simp; omega), List.getElem?_append_left (by omega)] at hj
  exact List.mem_of_getElem? hj
set_option maxRecDepth 20000 in
set_option maxHeartbeats 2000000 in
theorem back_texts (g c Bn : Nat) (vs : List Value) (L : Nat) (hL : vs.length = L) (hl : L ≤ 1048576) (hv : ∀ u ∈ vs, ∃ a m d, u = .slice a m d) :
    IterM Try.prog 66 #[.pointer (some ⟨Bn, 0, none⟩)] (encT vs) (List.range L).reverse (fun W => Boxed W Bn 42 (.slice (some ⟨g, 0, none⟩) L c) ∧ ∀ (j : Nat) (u : Value), vs[j]? = some u → W.cell? ⟨g, j, none⟩ = some u) := by
  intro n l J Jx W hRd hdr hY h0
  clear hdr
  have HRd := Lib.hid hRd
  have HY := Lib.hid hY
  have HST := Lib.hid fun K => rev_step (L := L) (K := K)
  have HAll := Lib.hid (show (List.range L).reverse.take (L - 0) = (List.range L).reverse by rw [List.take_of_length_le (by simp)])
  have HN := Lib.hid (show (List.range L).reverse.take (L - L) = [] by rw [Nat.sub_self, List.take_zero])
  have HV := Lib.hid hv
  have HL := Lib.hid hL
  have hR0 := hRd _ _ h0
  have hc := hR0.1.cell
  have hfz := hR0.1.frozen
  have H0 := Lib.hid h0
  clear hR0 hRd hY h0 hL hv
  refine callsIn_of_wp Try.func66 rfl trivial ?_ rfl
  simp only [Try.ntmps66, List.size_toArray, List.length_cons, List.length_nil, Nat.reduceAdd, Nat.reduceSub, Array.replicate_succ, Array.replicate_zero, List.push_toArray, List.append_toArray, List.nil_append, List.cons_append]
  gi_wp2
  gi_loopw [3] (fun s wr => ∃ K : Nat, s = .int .i64 ((K : Int) - 1) ∧ K ≤ L ∧ J ((List.range L).reverse.take (L - K)) wr) (fun s _ => (intOf s + 1).toNat)
  case atStart => exact ⟨L, rfl, Nat.le_refl _, by rw [HN.out]; exact H0.out⟩
  case round =>
    obtain ⟨K, rfl, hK, hj⟩ := hrel
    by_cases hK0 : K = 0
    · subst hK0
      have HJ := Lib.hid hj
      clear hj
      gi_wp2
      go_end0
      exact ⟨⟨_, rfl⟩, .inl (by rw [← HAll.out]; exact HJ.out)⟩
    · obtain ⟨k, rfl⟩ : ∃ k, K = k + 1 := ⟨K - 1, by omega⟩
      clear hK0
      rw [show (((k + 1 : Nat) : Int) - 1) = (k : Int) by omega]
      obtain ⟨hb1, hcell⟩ := HRd.out _ _ hj
      have hc1 := hb1.cell
      have hfz1 := hb1.frozen
      obtain ⟨x, hx⟩ : ∃ x, vs[k]? = some x := ⟨_, List.getElem?_eq_getElem (by rw [HL.out]; omega)⟩
      have kx := hcell k x hx
      obtain ⟨xa, xm, xd, rfl⟩ := HV.out x (List.mem_of_getElem? hx)
      have hgd : vs.getD k undef = .slice xa xm xd := by rw [List.getD_eq_getElem?_getD, hx]; rfl
      have hst := HST.out k (by omega)
      have hpre : (List.range L).reverse.take (L - (k + 1)) ++ [k] <+: (List.range L).reverse := by rw [hst]; exact List.take_prefix _ _
      obtain ⟨fn, tmps, assign, body, hy, hR⟩ := HY.out _ k _ hj hpre
      have HR := Lib.hid hR
      have HS := Lib.hid hst
      have HP := Lib.hid hpre
      dsimp only [encT] at hy
      rw [hgd] at hy
      clear hR hst hcell hx hb1 hj hpre hgd
      gi_wp2
      refine ⟨fun h => (by cases h), HR.out.mono ?_⟩
      rintro e W3 (⟨rfl, hJ3⟩ | ⟨rfl, hJx3⟩)
      · gi_wp2
        go_roundw
        case rel => exact ⟨k, by go_num, by omega, by rw [← HS.out]; exact hJ3⟩
        case measure => simp [intOf]
      · gi_wp2
        refine bodyPost_ret (results_none rfl _ _ _) rfl ?_
        exact ⟨⟨_, rfl⟩, .inr ⟨_, HP.out, hJx3⟩⟩
set_option maxHeartbeats 800000 in
theorem texts_Backward (a : Option Addr) (len c : Nat) (w : World) :
    Calls Try.prog 60 #[.slice a len c] w fun e w' => e = .returned (.func (.func 66) #[] #[.pointer (some ⟨w.heap.size, 0, none⟩)]) ∧ w' = w.alloc (.cells #[.slice a len c] 42) := by
  go_enter Try.func60, Try.ntmps60
  go_wp2
  go_ret
  exact ⟨rfl, rfl⟩
end Go.Proofs.Ytpikjahgnnejmaa

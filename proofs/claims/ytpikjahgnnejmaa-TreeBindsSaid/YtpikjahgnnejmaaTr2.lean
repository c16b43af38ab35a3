/- Numbers of a kind behind an address; slices.ContainsFunc at uint32; place.wrong. -/
import Derived.Test.YtpikjahgnnejmaaTr1
namespace Go.Proofs.Ytpikjahgnnejmaa
open Go.RowKit
set_option linter.unusedVariables false
set_option linter.unusedSimpArgs false
theorem addr_litT (b o j : Nat) : (⟨b, o, none⟩ : Addr).add j = ⟨b, o + j, none⟩ := by
  unfold Addr.add; split <;> simp_all
/-- numbers of a kind behind an address -/
structure RowK (k : IntKind) (W : World) (a : Option Addr) (xs : List Int) : Prop where
  nil : a = none → xs = []
  cells : ∀ ad, a = some ad → ∀ (i : Nat) (x : Int), xs[i]? = some x → W.cell? (ad.add i) = some (.int k x)
theorem RowK.below {k : IntKind} {W W' : World} {a : Option Addr} {xs : List Int} (h : RowK k W a xs) {B : Nat} (hb : Below B W W') (hB : W.heap.size ≤ B) : RowK k W' a xs :=
  ⟨h.nil, fun ad e i x hx => by
    have k0 := h.cells ad e i x hx
    exact (hb.cell (p := ad.add i) (Nat.lt_of_lt_of_le (World.block_lt_of_cell? W _ k0) hB)).trans k0⟩
theorem RowK.shape {k : IntKind} {W : World} {a : Option Addr} {xs : List Int} (h : RowK k W a xs) (hne : 0 < xs.length) : ∃ b o, a = some ⟨b, o, none⟩ ∧ ∀ (i : Nat) (x : Int), xs[i]? = some x → W.cell? ⟨b, o + i, none⟩ = some (.int k x) := by
  rcases a with _ | ⟨b, o, s⟩
  · have := h.nil rfl; subst this; simp at hne
  · have k0 := h.cells _ rfl 0 xs[0] (List.getElem?_eq_getElem hne)
    have hs : s = none := by
      cases s with
      | none => rfl
      | some y =>
        simp [World.cell?, Addr.add] at k0
        split at k0 <;> simp at k0
    subst hs
    refine ⟨b, o, rfl, fun i x hx => ?_⟩
    have k1 := h.cells _ rfl i x hx
    rw [addr_litT] at k1
    exact k1
theorem RowK.of {k : IntKind} {W : World} {a : Option Addr} {len cap : Nat} {zs : List Int} (h : IsRow k W a len cap zs) : ∃ xs : List Int, xs.length = len ∧ RowK k W a xs ∧ ∀ x ∈ xs, (Lit.int k x).wf = true := by
  rcases h with ⟨rfl, rfl, rfl, rfl⟩ | ⟨ad, rfl, hl, hm, hz, hc, hw⟩
  · exact ⟨[], rfl, ⟨fun _ => rfl, (fun ad e => by cases e)⟩, fun x hx => by simp at hx⟩
  · refine ⟨zs.take len, by simp; omega, ⟨fun e => (by cases e), fun ad' e j u hu => ?_⟩, fun x hx => hw x (List.mem_of_mem_take hx)⟩
    cases e
    have hj : j < len := by
      have := (List.getElem?_eq_some_iff.1 hu).1
      simp at this; omega
    have e1 := hc j (by omega)
    rw [e1]
    rw [List.getElem?_take, if_pos hj] at hu
    rw [List.getD_eq_getElem?_getD, hu]
    rfl
section
set_option maxHeartbeats 1600000
theorem idx_u32 (g : Nat) (lb : Array Value) (eg : ∀ args w, (callFunc g args).run Try.prog w = .ok (.enter g args) w) (p : Int → Bool) (a : Option Addr) (c : Nat) (rows : List Int) (w : World) (L : Nat) (h : RowK .u32 w a rows) (hL : rows.length = L) (hl : L ≤ 9223372036854775807)
    (hp : ∀ W x, Below w.heap.size w W → x ∈ rows → Calls Try.prog g (#[.int .u32 x] ++ lb) W fun e w' => e = .returned (.bool (p x)) ∧ Below W.heap.size W w') :
    Calls Try.prog 65 #[.slice a L c, .func (.func g) #[] lb] w fun e w' => (∃ r : Int, e = .returned (.int .i64 r) ∧ decide (0 ≤ r) = rows.any p) ∧ Below w.heap.size w w' := by
  have HP := Lib.hid hp
  have HR := Lib.hid h
  have HL := Lib.hid hL
  clear hL h hp
  go_enter Try.func65, Try.ntmps65
  go_wp2
  go_loopw [8] (fun i wr => ∃ I : Nat, i = .int .i64 I ∧ I ≤ L ∧ Hid (∀ (j : Nat) x, j < I → rows[j]? = some x → p x = false) ∧ Below w.heap.size w wr) (fun i _ => L - (intOf i).toNat)
  case atStart => exact ⟨0, rfl, by omega, Lib.hid (fun j x h => absurd h (Nat.not_lt_zero _)), Below.refl _ _⟩
  case round =>
    obtain ⟨I, rfl, hI, HA, hb⟩ := hrel
    by_cases hlt : I < L
    · obtain ⟨x, hx⟩ : ∃ x, rows[I]? = some x := ⟨_, List.getElem?_eq_getElem (by rw [HL.out]; exact hlt)⟩
      have hx2 := List.mem_of_getElem? hx
      have hrr := HR.out.below hb (Nat.le_refl _)
      obtain ⟨b, o, rfl, hc⟩ := hrr.shape (by rw [HL.out]; omega)
      have kx := hc I x hx
      have HC := Lib.hid (HP.out wr x hb hx2)
      have HXI := Lib.hid hx
      have HB := Lib.hid hb
      clear hx hc hb hrr
      obtain ⟨q, hq⟩ : ∃ q, p x = q := ⟨_, rfl⟩
      rw [hq] at HC
      have HQ := Lib.hid hq
      clear hq
      cases q with
      | true =>
        go_wp2_with (go_at_fn g; refine HC.out.mono ?_; rintro e w' ⟨rfl, hb'⟩)
        go_ret
        refine ⟨⟨_, rfl, ?_⟩, below_two HB.out hb'⟩
        rw [decide_eq_true (by omega : (0 : Int) ≤ (I : Int))]
        symm
        exact List.any_eq_true.2 ⟨x, List.mem_of_getElem? HXI.out, HQ.out⟩
      | false =>
        go_wp2_with (go_at_fn g; refine HC.out.mono ?_; rintro e w' ⟨rfl, hb'⟩)
        go_round
        case rel =>
          refine ⟨I + 1, by go_num, by omega, Lib.hid (fun j y hj hy => ?_), below_two HB.out hb'⟩
          by_cases e : j = I
          · subst e
            have := HXI.out
            rw [hy] at this
            rw [Option.some.inj this]; exact HQ.out
          · exact HA.out j y (by omega) hy
        case measure => simp [intOf]; omega
    · go_wp2
      go_ret
      refine ⟨⟨_, rfl, ?_⟩, hb⟩
      symm
      rw [decide_eq_false (by omega), Bool.eq_false_iff]
      intro hany
      obtain ⟨x, hm, hpx⟩ := List.any_eq_true.1 hany
      obtain ⟨j, hj⟩ := List.getElem?_of_mem hm
      have := HA.out j x (by have := (List.getElem?_eq_some_iff.1 hj).1; have := HL.out; omega) hj
      rw [hpx] at this; cases this
theorem contains_u32 (g : Nat) (lb : Array Value) (eg : ∀ args w, (callFunc g args).run Try.prog w = .ok (.enter g args) w) (p : Int → Bool) (a : Option Addr) (c : Nat) (rows : List Int) (w : World) (L : Nat) (h : RowK .u32 w a rows) (hL : rows.length = L) (hl : L ≤ 9223372036854775807)
    (hp : ∀ W x, Below w.heap.size w W → x ∈ rows → Calls Try.prog g (#[.int .u32 x] ++ lb) W fun e w' => e = .returned (.bool (p x)) ∧ Below W.heap.size W w') :
    Calls Try.prog 57 #[.slice a L c, .func (.func g) #[] lb] w fun e w' => e = .returned (.bool (rows.any p)) ∧ Below w.heap.size w w' := by
  have HI := Lib.hid (idx_u32 g lb eg p a c rows w L h hL hl hp)
  obtain ⟨q, hq⟩ : ∃ q, rows.any p = q := ⟨_, rfl⟩
  rw [hq] at HI ⊢
  clear hq h hp hL
  go_enter Try.func57, Try.ntmps57
  go_wp2_with fail
  refine HI.out.mono ?_
  rintro e w' ⟨⟨r, rfl, hr⟩, hb⟩
  have HRR := Lib.hid hr
  clear hr
  go_wp2
  go_ret
  exact ⟨by rw [← HRR.out]; rfl, hb⟩
end
/-- what is wrong with a place, a leaf and a proof -/
def placeE (n i : Int) (L P : Nat) : Nat := if n < 1 ∨ 64 < n ∨ i < 0 ∨ n ≤ i then 3 else if 4096 ≤ L ∨ 64 < P then 1 else 0
set_option maxHeartbeats 3200000 in
theorem place_wrong (n i : Int) (a b : Option Addr) (L c P d : Nat) (w : World) (hn : -9223372036854775808 ≤ n ∧ n ≤ 9223372036854775807) (hi : -9223372036854775808 ≤ i ∧ i ≤ 9223372036854775807) (hL : L ≤ 9223372036854775807) (hP : P ≤ 9223372036854775807) :
    Calls Try.prog 42 #[.agg #[.int .i64 n, .int .i64 i], .slice a L c, .slice b P d] w fun e w' => e = .returned (.int .i64 (placeE n i L P : Nat)) ∧ Below w.heap.size w w' := by
  have HLo := Lib.hid (fun W => tree_long a c L W hL)
  obtain ⟨E, hE⟩ : ∃ E, E = placeE n i L P := ⟨_, rfl⟩
  rw [← hE]
  have HE := Lib.hid hE
  clear hE
  by_cases h1 : n < 1 ∨ 64 < n ∨ i < 0 ∨ n ≤ i
  · have e9 : E = 3 := by rw [HE.out]; unfold placeE; rw [if_pos h1]
    subst e9
    clear HLo HE
    have fin : Below w.heap.size w (w.alloc (.cells #[.int .i64 n, .int .i64 i] 79)) := (Below.refl _ _).alloc (Nat.le_refl _) _
    by_cases a1 : n < 1
    · go_enter Try.func42, Try.ntmps42
      go_wp2
      refine bodyPost_ret (v := .int .i64 3) ?_ rfl ?_
      · go_simp; first | rfl | kernel_rfl
      · exact ⟨rfl, fin⟩
    · by_cases a2 : 64 < n
      · go_enter Try.func42, Try.ntmps42
        go_wp2
        refine bodyPost_ret (v := .int .i64 3) ?_ rfl ?_
        · go_simp; first | rfl | kernel_rfl
        · exact ⟨rfl, fin⟩
      · by_cases a3 : i < 0
        · go_enter Try.func42, Try.ntmps42
          go_wp2
          refine bodyPost_ret (v := .int .i64 3) ?_ rfl ?_
          · go_simp; first | rfl | kernel_rfl
          · exact ⟨rfl, fin⟩
        · have a4 : n ≤ i := by omega
          go_enter Try.func42, Try.ntmps42
          go_wp2
          refine bodyPost_ret (v := .int .i64 3) ?_ rfl ?_
          · go_simp; first | rfl | kernel_rfl
          · exact ⟨rfl, fin⟩
  · have a1 : ¬ n < 1 := by omega
    have a2 : ¬ 64 < n := by omega
    have a3 : ¬ i < 0 := by omega
    have a4 : ¬ n ≤ i := by omega
    have fin : Below w.heap.size w (w.alloc (.cells #[.int .i64 n, .int .i64 i] 79)) := (Below.refl _ _).alloc (Nat.le_refl _) _
    by_cases h2 : 4096 ≤ L
    · have e9 : E = 1 := by rw [HE.out]; unfold placeE; rw [if_neg h1, if_pos (.inl h2)]
      subst e9
      rw [decide_eq_true h2] at HLo
      clear HE h1 h2
      go_enter Try.func42, Try.ntmps42
      go_wp2_with fail
      refine (HLo.out _).mono ?_
      rintro e w' ⟨rfl, rfl⟩
      go_wp2
      refine bodyPost_ret (v := .int .i64 1) ?_ rfl ?_
      · go_simp; first | rfl | kernel_rfl
      · exact ⟨rfl, fin⟩
    · rw [decide_eq_false h2] at HLo
      by_cases h3 : 64 < P
      · have e9 : E = 1 := by rw [HE.out]; unfold placeE; rw [if_neg h1, if_pos (.inr h3)]
        have h4 : (64 : Int) < (P : Int) := by omega
        subst e9
        clear HE h1 h2 h3
        go_enter Try.func42, Try.ntmps42
        go_wp2_with fail
        refine (HLo.out _).mono ?_
        rintro e w' ⟨rfl, rfl⟩
        go_wp2
        refine bodyPost_ret (v := .int .i64 1) ?_ rfl ?_
        · go_simp; first | rfl | kernel_rfl
        · exact ⟨rfl, fin⟩
      · have e9 : E = 0 := by rw [HE.out]; unfold placeE; rw [if_neg h1, if_neg (by omega)]
        have h4 : ¬ (64 : Int) < (P : Int) := by omega
        subst e9
        clear HE h1 h2 h3
        go_enter Try.func42, Try.ntmps42
        go_wp2_with fail
        refine (HLo.out _).mono ?_
        rintro e w' ⟨rfl, rfl⟩
        go_wp2
        refine bodyPost_ret (v := .int .i64 0) ?_ rfl ?_
        · go_simp; first | rfl | kernel_rfl
        · exact ⟨rfl, fin⟩
end Go.Proofs.Ytpikjahgnnejmaa

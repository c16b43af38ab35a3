/- Merged: XPrt1, XPrt2, XPrt3, XPrt4, XPrt5, XPrt6. -/
import Derived.Test.YtfgmnlphejpcaaaGate
import Derived.Test.YtfgmnlphejpcaaaPolC
import Derived.Test.YtfgmnlphejpcaaaSplit
import Derived.Test.YtfgmnlphejpcaaaKeep
import Derived.Test.YtfgmnlphejpcaaaParM
import Derived.Test.YtfgmnlphejpcaaaHold
/- parts.out, parts.gate. -/
namespace Go.Proofs.Ytfgmnlphejpcaaa
open Go.RowKit
set_option linter.unusedVariables false
set_option linter.unusedSimpArgs false
theorem out_c (p x : Int) (b : Nat) (w : World) (hb : w.cell? ⟨b, 0, none⟩ = some (.int .i64 p)) :
    Calls Try.prog 76 #[.int .i64 x, .pointer (some ⟨b, 0, none⟩)] w fun e w' => e = .returned (.bool (badB p x)) ∧ Below w.heap.size w w' := by
  by_cases h : x < 0
  · have e : badB p x = true := by simp [badB]; omega
    rw [e]
    clear e
    go_enter Try.func76, Try.ntmps76
    go_wp2
    go_ret
    exact ⟨rfl, Below.refl _ _⟩
  · have e : badB p x = decide (p ≤ x) := by simp [badB]; omega
    rw [e]
    clear e
    go_enter Try.func76, Try.ntmps76
    go_wp2
    go_ret
    exact ⟨ret_bool (by simp), Below.refl _ _⟩
set_option maxHeartbeats 1600000 in
theorem parts_out (p : Int) (a : Option Addr) (c : Nat) (xs : List Int) (w : World) (h : RowL w a c xs) (hl : xs.length ≤ 4611686018427387904) :
    Calls Try.prog 59 #[.int .i64 p, .slice a xs.length c] w fun e w' => e = .returned (.bool (xs.any (badB p))) ∧ Below w.heap.size w w' := by
  have hmf : ∀ (fn : Fn) (first cap : Array Value) (w : World), (Instr.makeFunc fn first cap).run Try.prog w = .ok (.func fn first cap) w := fun _ _ _ _ => rfl
  have HC := Lib.hid fun W (hb : Below w.heap.size w W) (b : Nat) (hbc : W.cell? ⟨b, 0, none⟩ = some (.int .i64 p)) =>
    contains_longsB 76 #[.pointer (some ⟨b, 0, none⟩)] (enters_of Try.func76 (by kernel_rfl) rfl) (badB p) a c xs W (h.below hb (Nat.le_refl _)) hl
      (fun W' x hb' _ => out_c p x b W' ((hb'.cell (p := ⟨b, 0, none⟩) (World.block_lt_of_cell? W _ hbc)).trans hbc))
  obtain ⟨B, hB⟩ : ∃ B, xs.any (badB p) = B := ⟨_, rfl⟩
  rw [hB] at HC ⊢
  obtain ⟨L, hL⟩ : ∃ L, xs.length = L := ⟨_, rfl⟩
  rw [hL] at HC hl ⊢
  clear h hB hL
  go_enter Try.func59, Try.ntmps59
  go_wp2_with fail
  have hb0 : Below w.heap.size w (w.alloc (.cells #[.int .i64 p] 2)) := (Below.refl _ _).alloc (Nat.le_refl _) _
  refine (HC.out _ hb0 w.heap.size (by simp [go_sem])).mono ?_
  rintro e w' ⟨rfl, hb⟩
  go_wp2_with fail
  go_ret
  exact ⟨rfl, below_two hb0 hb⟩
def aheadB (i : Nat) (k : Int) : Bool := decide (0 ≤ k) && decide (k < (i : Int))
theorem ahead_c (i : Nat) (k : Int) (b : Nat) (w : World) (hb : w.cell? ⟨b, 0, none⟩ = some (.int .i64 (i : Nat))) :
    Calls Try.prog 84 #[.int .i64 k, .pointer (some ⟨b, 0, none⟩)] w fun e w' => e = .returned (.bool (aheadB i k)) ∧ Below w.heap.size w w' := by
  by_cases h : 0 ≤ k
  · have e : aheadB i k = decide (k < (i : Int)) := by simp [aheadB, h]
    rw [e]
    clear e
    go_enter Try.func84, Try.ntmps84
    go_wp2
    go_ret
    exact ⟨ret_bool (by simp), Below.refl _ _⟩
  · have e : aheadB i k = false := by simp [aheadB]; omega
    rw [e]
    clear e
    go_enter Try.func84, Try.ntmps84
    go_wp2
    go_ret
    exact ⟨rfl, Below.refl _ _⟩
/-- what is wrong with a gate -/
def gaE (p : Int) (i : Nat) (g : Ga) (m : Nat) : Nat :=
  if g.kind = 1 then (if g.a < 0 ∨ (m : Int) ≤ g.a then 3 else 0)
  else if g.kind = 2 then (if badB p g.n = true then 2 else 0)
  else if g.kind = 3 ∨ g.kind = 4 then (if aheadB i g.a = true ∧ aheadB i g.b = true then 0 else 3) else 6
set_option maxRecDepth 20000 in
set_option maxHeartbeats 6400000 in
theorem parts_gate (p : Int) (i : Nat) (g : Ga) (m : Nat) (w : World) :
    Calls Try.prog 75 #[.int .i64 p, .int .i64 i, .agg #[.int .i64 g.kind, .int .i64 g.a, .int .i64 g.b, .int .i64 g.n], .int .i64 m] w fun e w' => e = .returned (.int .i64 (gaE p i g m : Nat)) ∧ Below w.heap.size w w' := by
  have hmf : ∀ (fn : Fn) (first cap : Array Value) (w : World), (Instr.makeFunc fn first cap).run Try.prog w = .ok (.func fn first cap) w := fun _ _ _ _ => rfl
  obtain ⟨k, a, b, n⟩ := g
  dsimp only
  by_cases h1 : k = 1
  · subst h1
    by_cases h2 : a < 0
    · rw [show gaE p i ⟨1, a, b, n⟩ m = 3 by unfold gaE; rw [if_pos rfl, if_pos (.inl h2)]]
      go_enter Try.func75, Try.ntmps75
      go_wp2
      go_ret
      exact ⟨rfl, ((Below.refl _ _).alloc (Nat.le_refl _) _).alloc (by simp) _⟩
    · by_cases h3 : (m : Int) ≤ a
      · rw [show gaE p i ⟨1, a, b, n⟩ m = 3 by unfold gaE; rw [if_pos rfl, if_pos (.inr h3)]]
        go_enter Try.func75, Try.ntmps75
        go_wp2
        go_ret
        exact ⟨rfl, ((Below.refl _ _).alloc (Nat.le_refl _) _).alloc (by simp) _⟩
      · rw [show gaE p i ⟨1, a, b, n⟩ m = 0 by unfold gaE; rw [if_pos rfl, if_neg (by simp; omega)]]
        go_enter Try.func75, Try.ntmps75
        go_wp2
        go_ret
        exact ⟨rfl, ((Below.refl _ _).alloc (Nat.le_refl _) _).alloc (by simp) _⟩
  · by_cases h2 : k = 2
    · subst h2
      have HO := Lib.hid fun (B : Nat) W (hc : W.cell? ⟨B, 0, none⟩ = some (.int .i64 n)) => parts_out p (some ⟨B, 0, none⟩) 1 [n] W ⟨fun e => (by cases e), fun ad e j u hj => (by
        cases e
        cases j with
        | zero => simp [inV] at hj; subst hj; rw [addr_lit]; exact hc
        | succ j => simp [inV] at hj), by simp⟩ (by simp)
      rw [show gaE p i ⟨2, a, b, n⟩ m = if badB p n = true then 2 else 0 by unfold gaE; rw [if_neg (by simp), if_pos rfl]]
      simp only [List.any_cons, List.any_nil, Bool.or_false, List.length_singleton] at HO
      obtain ⟨B, hB⟩ : ∃ B, badB p n = B := ⟨_, rfl⟩
      rw [hB] at HO ⊢
      clear hB h1
      go_enter Try.func75, Try.ntmps75
      go_wp2_with fail
      refine (HO.out _ _ (by simp [go_sem])).mono ?_
      rintro e w' ⟨rfl, hb⟩
      have hbb := below_two ((((Below.refl w.heap.size w).alloc (Nat.le_refl _) (.cells #[.int .i64 i] 3)).alloc (by simp) (.cells #[.int .i64 2, .int .i64 a, .int .i64 b, .int .i64 n] 80)).alloc (by simp; omega) (.cells #[.int .i64 n] 2)) hb
      cases B
      · go_wp2_with fail
        go_ret
        exact ⟨rfl, hbb⟩
      · go_wp2_with fail
        go_ret
        exact ⟨rfl, hbb⟩
    · have f1 : (k == 1) = false := by simpa using h1
      have f2 : (k == 2) = false := by simpa using h2
      by_cases h3 : k = 3 ∨ k = 4
      · have HA := Lib.hid fun (x : Int) (B : Nat) W (hc : W.cell? ⟨B, 0, none⟩ = some (.int .i64 (i : Nat))) => ahead_c i x B W hc
        rw [show gaE p i ⟨k, a, b, n⟩ m = if aheadB i a = true ∧ aheadB i b = true then 0 else 3 by unfold gaE; rw [if_neg h1, if_neg h2, if_pos h3]]
        have HA1 := Lib.hid fun (B : Nat) W (hc : W.cell? ⟨B, 0, none⟩ = some (.int .i64 (i : Nat))) => ahead_c i a B W hc
        have HA2 := Lib.hid fun (B : Nat) W (hc : W.cell? ⟨B, 0, none⟩ = some (.int .i64 (i : Nat))) => ahead_c i b B W hc
        obtain ⟨A, hA⟩ : ∃ A, aheadB i a = A := ⟨_, rfl⟩
        obtain ⟨B, hB⟩ : ∃ A, aheadB i b = A := ⟨_, rfl⟩
        rw [hA] at HA1 ⊢
        rw [hB] at HA2 ⊢
        clear hA hB HA
        have hb0 := ((Below.refl w.heap.size w).alloc (Nat.le_refl _) (.cells #[.int .i64 i] 3)).alloc (by simp) (.cells #[.int .i64 k, .int .i64 a, .int .i64 b, .int .i64 n] 80)
        cases A
        · rw [if_neg (by simp)]
          rcases h3 with rfl | rfl
          · go_enter Try.func75, Try.ntmps75
            go_wp2_with fail
            refine (HA1.out w.heap.size _ (by simp [go_sem])).mono ?_
            rintro e w' ⟨rfl, hb⟩
            have hbb := below_two hb0 hb
            go_wp2_with fail
            go_ret
            exact ⟨rfl, hbb⟩
          · go_enter Try.func75, Try.ntmps75
            go_wp2_with fail
            refine (HA1.out w.heap.size _ (by simp [go_sem])).mono ?_
            rintro e w' ⟨rfl, hb⟩
            have hbb := below_two hb0 hb
            go_wp2_with fail
            go_ret
            exact ⟨rfl, hbb⟩
        · rcases h3 with rfl | rfl
          · go_enter Try.func75, Try.ntmps75
            go_wp2_with fail
            refine (HA1.out w.heap.size _ (by simp [go_sem])).mono ?_
            rintro e w' ⟨rfl, hb⟩
            have hbb := below_two hb0 hb
            have k0 := (hb.cell (p := ⟨w.heap.size, 0, none⟩) (by simp; omega)).trans (show _ = some (.int .i64 (i : Nat)) by simp [go_sem])
            have k2 := (hb.cell (p := ⟨w.heap.size + 1, 2, none⟩) (by simp)).trans (show _ = some (.int .i64 b) by simp [go_sem])
            go_wp2_with fail
            refine (HA2.out w.heap.size _ k0).mono ?_
            rintro e w2 ⟨rfl, hb2⟩
            have hbc := below_two hbb hb2
            cases B
            · go_wp2_with fail
              go_ret
              exact ⟨rfl, hbc⟩
            · go_wp2_with fail
              go_ret
              exact ⟨rfl, hbc⟩
          · go_enter Try.func75, Try.ntmps75
            go_wp2_with fail
            refine (HA1.out w.heap.size _ (by simp [go_sem])).mono ?_
            rintro e w' ⟨rfl, hb⟩
            have hbb := below_two hb0 hb
            have k0 := (hb.cell (p := ⟨w.heap.size, 0, none⟩) (by simp; omega)).trans (show _ = some (.int .i64 (i : Nat)) by simp [go_sem])
            have k2 := (hb.cell (p := ⟨w.heap.size + 1, 2, none⟩) (by simp)).trans (show _ = some (.int .i64 b) by simp [go_sem])
            go_wp2_with fail
            refine (HA2.out w.heap.size _ k0).mono ?_
            rintro e w2 ⟨rfl, hb2⟩
            have hbc := below_two hbb hb2
            cases B
            · go_wp2_with fail
              go_ret
              exact ⟨rfl, hbc⟩
            · go_wp2_with fail
              go_ret
              exact ⟨rfl, hbc⟩
      · have f3 : (k == 3) = false := by simp; omega
        have f4 : (k == 4) = false := by simp; omega
        rw [show gaE p i ⟨k, a, b, n⟩ m = 6 by unfold gaE; rw [if_neg h1, if_neg h2, if_neg h3]]
        clear h1 h2 h3
        go_enter Try.func75, Try.ntmps75
        go_wp2
        go_ret
        exact ⟨rfl, ((Below.refl _ _).alloc (Nat.le_refl _) _).alloc (by simp) _⟩
end Go.Proofs.Ytfgmnlphejpcaaa

/- parts.wrong. -/
namespace Go.Proofs.Ytfgmnlphejpcaaa
open Go.RowKit
set_option linter.unusedVariables false
set_option linter.unusedSimpArgs false
/-- gates and inputs that may be -/
structure GoodG (p : Int) (gs : List Ga) (ins : List Int) : Prop where
  pr : primeE p = 0
  lg : gs.length ≤ 60
  li : ins.length ≤ 60
  rng : ins.any (badB p) = false
  ok : ∀ (i : Nat) (g : Ga), gs[i]? = some g → gaE p i g ins.length = 0
set_option maxRecDepth 20000 in
set_option maxHeartbeats 6400000 in
theorem parts_wrong (p : Int) (a b : Option Addr) (c d : Nat) (gs : List Ga) (ins : List Int) (w : World) (h1 : RowGa w a gs) (h2 : RowL w b d ins) (l1 : gs.length ≤ 9223372036854775807) (l2 : ins.length ≤ 4611686018427387904) :
    Calls Try.prog 57 #[.int .i64 p, .slice a gs.length c, .slice b ins.length d] w fun e w' => (∃ E : Int, e = .returned (.int .i64 E) ∧ (E = 0 ↔ GoodG p gs ins)) ∧ Below w.heap.size w w' := by
  have HP := Lib.hid fun W => poly_Check p none 0 [] W (RowL.nil W) (by simp)
  simp only [List.length_nil, polyE_nil] at HP
  by_cases hpr : primeE p = 0
  · rw [hpr] at HP
    by_cases hl : gs.length ≤ 60 ∧ ins.length ≤ 60
    · have HO := Lib.hid fun W (hb : Below w.heap.size w W) => parts_out p b d ins W (h2.below hb (Nat.le_refl _)) l2
      obtain ⟨m, hm⟩ : ∃ m, ins.length = m := ⟨_, rfl⟩
      obtain ⟨N, hN⟩ : ∃ m, gs.length = m := ⟨_, rfl⟩
      have HM := Lib.hid hm
      have HN := Lib.hid hN
      obtain ⟨mx, hif⟩ : ∃ mx : Int, (if N < m then (m : Int) else (N : Int)) = mx := ⟨_, rfl⟩
      have d3 : mx ≤ 60 := by rw [← hif]; split <;> omega
      have hN60 : N ≤ 60 := by omega
      rw [hm] at HO ⊢
      rw [hN]
      cases hout : ins.any (badB p) with
      | true =>
        rw [hout] at HO
        have HB : Hid (¬ GoodG p gs ins) := Lib.hid fun h => by have := h.rng; rw [hout] at this; cases this
        clear h1 h2 l1 l2 hl hm hN hout hpr
        go_enter Try.func57, Try.ntmps57
        go_wp2_with fail
        refine (HP.out _).mono ?_
        rintro e w1 ⟨rfl, hb1⟩
        have HC := Lib.hid (HO.out w1 hb1)
        have HB1 := Lib.hid hb1
        clear hb1
        go_wp2_with fail
        refine HC.out.mono ?_
        rintro e w2 ⟨rfl, hb2⟩
        have hbb := below_two HB1.out hb2
        go_wp2_with fail
        go_ret
        exact ⟨⟨2, rfl, by constructor <;> intro h; exact absurd h (by decide); exact absurd h HB.out⟩, hbb⟩
      | false =>
        rw [hout] at HO
        have HG := Lib.hid fun (i : Nat) (g : Ga) W => parts_gate p i g m W
        have HR := Lib.hid h1
        have HOK : Hid ((∀ (i : Nat) (g : Ga), gs[i]? = some g → gaE p i g m = 0) → GoodG p gs ins) := Lib.hid fun h => ⟨hpr, hl.1, hl.2, hout, by rw [hm]; exact h⟩
        have HNO : Hid (∀ (i : Nat) (g : Ga), gs[i]? = some g → gaE p i g m ≠ 0 → ¬ GoodG p gs ins) := Lib.hid fun i g h1 h2 h => h2 (by have := h.ok i g h1; rw [hm] at this; exact this)
        clear h1 h2 l1 l2 hl hm hN hout hpr
        go_enter Try.func57, Try.ntmps57
        go_wp2_with fail
        refine (HP.out _).mono ?_
        rintro e w1 ⟨rfl, hb1⟩
        have HC := Lib.hid (HO.out w1 hb1)
        have HB1 := Lib.hid hb1
        clear hb1
        go_wp2_with fail
        refine HC.out.mono ?_
        rintro e w2 ⟨rfl, hb2⟩
        have HB2 := Lib.hid (below_two HB1.out hb2)
        clear hb2 HC HB1
        go_wp2_with fail
        go_loopw [27] (fun iv wr => ∃ I : Nat, iv = .int .i64 I ∧ I ≤ N ∧ Hid (∀ (i : Nat) (g : Ga), i < I → gs[i]? = some g → gaE p i g m = 0) ∧ Hid (Below w.heap.size w wr)) (fun iv _ => N - (intOf iv).toNat)
        case atStart => exact ⟨0, rfl, by omega, Lib.hid (fun i g h => absurd h (Nat.not_lt_zero _)), HB2⟩
        case round =>
          obtain ⟨I, rfl, hI, HI, HB⟩ := hrel
          clear HB2
          by_cases hIe : I = N
          · subst hIe
            have HGD := Lib.hid (HOK.out fun i g h => HI.out i g (by have := (List.getElem?_eq_some_iff.1 h).1; rw [← HN.out]; exact this) h)
            clear HI
            go_wp2_with fail
            go_ret
            exact ⟨⟨0, rfl, fun _ => HGD.out, fun _ => rfl⟩, HB.out⟩
          · have hI2 : (I : Int) < N := by omega
            have hI3 : I < N := by omega
            obtain ⟨g, hg⟩ : ∃ g, gs[I]? = some g := ⟨_, List.getElem?_eq_getElem (by rw [HN.out]; exact hI3)⟩
            obtain ⟨bb, o, rfl, hcell⟩ := HR.out.shape (by rw [HN.out]; omega)
            obtain ⟨q0, q1, q2, q3⟩ := hcell I g hg
            have zb : bb < w.heap.size := World.block_lt_of_cell? _ _ q0
            have k0 := kept HB.out q0 zb
            have k1 := kept HB.out q1 zb
            have k2 := kept HB.out q2 zb
            have k3 := kept HB.out q3 zb
            have HGG := Lib.hid hg
            have hc := HG.out I g
            obtain ⟨E, hE⟩ : ∃ E, gaE p I g m = E := ⟨_, rfl⟩
            have HE := Lib.hid hE
            rw [hE] at hc
            have HC := Lib.hid hc
            clear hcell q0 q1 q2 q3 hg hE hc hI
            obtain ⟨gk, ga, gb, gn⟩ := g
            go_wp2_with fail
            refine (HC.out _).mono ?_
            rintro e w3 ⟨rfl, hb3⟩
            have hbz := HB.out.size
            have hbb := below_two (HB.out.alloc hbz (.cells #[.int .i64 gk, .int .i64 ga, .int .i64 gb, .int .i64 gn] 80)) hb3
            by_cases h0 : E = 0
            · subst h0
              have HII : Hid (∀ (i : Nat) (g : Ga), i < I + 1 → gs[i]? = some g → gaE p i g m = 0) := Lib.hid fun i g h1 h2 => by
                by_cases e : i = I
                · subst e
                  rw [HGG.out] at h2; cases h2
                  exact HE.out
                · exact HI.out i g (by omega) h2
              clear HI HE
              go_wp2_with fail
              go_round
              case rel => exact ⟨I + 1, by go_num, by omega, HII, Lib.hid hbb⟩
              case measure => simp [intOf]; omega
            · have e1 : ((E : Int) != 0) = true := by simp; omega
              have e2 : ((E : Int) == 0) = false := by simp; omega
              have HNG := Lib.hid (HNO.out I _ HGG.out (by rw [HE.out]; exact h0))
              clear HI HE
              go_wp2_with fail
              go_ret
              exact ⟨⟨E, rfl, fun h => absurd h (by omega), fun h => absurd h HNG.out⟩, hbb⟩
    · have HB : Hid (¬ GoodG p gs ins) := Lib.hid fun h => hl ⟨h.lg, h.li⟩
      obtain ⟨m, hm⟩ : ∃ m, ins.length = m := ⟨_, rfl⟩
      obtain ⟨N, hN⟩ : ∃ m, gs.length = m := ⟨_, rfl⟩
      rw [hm, hN] at hl ⊢
      obtain ⟨mx, hif⟩ : ∃ mx : Int, (if N < m then (m : Int) else (N : Int)) = mx := ⟨_, rfl⟩
      have d3 : ¬ mx ≤ 60 := by rw [← hif]; split <;> omega
      clear h1 h2 l1 l2 hl hm hN hpr
      go_enter Try.func57, Try.ntmps57
      go_wp2_with fail
      refine (HP.out _).mono ?_
      rintro e w1 ⟨rfl, hb1⟩
      go_wp2_with fail
      go_ret
      exact ⟨⟨1, rfl, fun h => absurd h (by decide), fun h => absurd h HB.out⟩, hb1⟩
  · have HB : Hid (¬ GoodG p gs ins) := Lib.hid fun h => hpr h.pr
    obtain ⟨E, hE⟩ : ∃ E, primeE p = E := ⟨_, rfl⟩
    rw [hE] at HP hpr
    have e1 : (E != 0) = true := by simpa using hpr
    have e2 : (E == 0) = false := by simpa using hpr
    have HE := Lib.hid hpr
    clear h1 h2 l1 l2 hE hpr
    go_enter Try.func57, Try.ntmps57
    go_wp2_with fail
    refine (HP.out _).mono ?_
    rintro e w1 ⟨rfl, hb1⟩
    go_wp2_with fail
    go_ret
    exact ⟨⟨E, rfl, fun h => absurd h HE.out, fun h => absurd h HB.out⟩, hb1⟩
end Go.Proofs.Ytfgmnlphejpcaaa

/- parts.Clear. -/
namespace Go.Proofs.Ytfgmnlphejpcaaa
open Go.RowKit
set_option linter.unusedVariables false
set_option linter.unusedSimpArgs false
theorem cell_newL (w : World) (v : Value) (T : TypeId) (hv : v.oneCell' = true) : ∀ (j : Nat) (u : Value), [v][j]? = some u → (w.alloc (.cells #[v] T)).cell? ((⟨w.heap.size, 0, none⟩ : Addr).add j) = some u := by
  intro j u h
  cases j with
  | zero =>
    simp at h; subst h
    rw [Addr.add_lit]
    simp [go_sem]
  | succ j => simp at h
theorem cell_newLn {w : World} {v : Value} {T : TypeId} {n : Nat} (hn : w.heap.size = n) (hv : v.oneCell' = true) : ∀ (j : Nat) (u : Value), [v][j]? = some u → (w.alloc (.cells #[v] T)).cell? ((⟨n, 0, none⟩ : Addr).add j) = some u := by
  subst hn
  exact cell_newL w v T hv
/-- a gate's value -/
def clearS (p : Int) (ins l : List Int) (g : Ga) : Int :=
  if g.kind = 1 then ins.getD g.a.toNat 0 else if g.kind = 3 then (l.getD g.a.toNat 0 + l.getD g.b.toNat 0) % p else if g.kind = 4 then l.getD g.a.toNat 0 * l.getD g.b.toNat 0 % p else g.n
def clearTo (p : Int) (ins : List Int) (gs : List Ga) : Nat → List Int
  | 0 => []
  | I + 1 => match gs[I]? with
    | some g => clearTo p ins gs I ++ [clearS p ins (clearTo p ins gs I) g]
    | none => clearTo p ins gs I
theorem clearTo_step {p : Int} {ins : List Int} {gs : List Ga} {I : Nat} {g : Ga} (h : gs[I]? = some g) : clearTo p ins gs (I + 1) = clearTo p ins gs I ++ [clearS p ins (clearTo p ins gs I) g] := by
  show (match gs[I]? with | some g => _ | none => _) = _
  rw [h]
theorem clearTo_len {p : Int} {ins : List Int} {gs : List Ga} : ∀ {I : Nat}, I ≤ gs.length → (clearTo p ins gs I).length = I
  | 0, _ => rfl
  | I + 1, h => by rw [clearTo_step (List.getElem?_eq_getElem (show I < gs.length by omega)), List.length_append, clearTo_len (by omega)]; rfl
theorem gaE_cases {p : Int} {i m : Nat} {g : Ga} (h : gaE p i g m = 0) : (g.kind = 1 ∧ 0 ≤ g.a ∧ g.a < m) ∨ (g.kind = 2 ∧ 0 ≤ g.n ∧ g.n < p) ∨ ((g.kind = 3 ∨ g.kind = 4) ∧ (0 ≤ g.a ∧ g.a < i) ∧ 0 ≤ g.b ∧ g.b < i) := by
  unfold gaE at h
  split at h
  · rename_i h1
    split at h
    · cases h
    · exact .inl ⟨h1, by omega, by omega⟩
  · split at h
    · rename_i h1 h2
      split at h
      · cases h
      · rename_i h3
        simp [badB] at h3
        exact .inr (.inl ⟨h2, by omega, by omega⟩)
    · split at h
      · rename_i h3
        split at h
        · rename_i h4
          simp [aheadB] at h4
          exact .inr (.inr ⟨h3, by omega, by omega⟩)
        · cases h
      · cases h
theorem clearS_rng {p : Int} {ins l : List Int} {g : Ga} {i : Nat} (hp : 1 ≤ p) (hi : ins.any (badB p) = false) (hg : gaE p i g ins.length = 0) : 0 ≤ clearS p ins l g ∧ clearS p ins l g < p := by
  unfold clearS
  rcases gaE_cases hg with ⟨h1, h2, h3⟩ | ⟨h1, h2, h3⟩ | ⟨h1 | h1, _⟩
  · rw [if_pos h1, List.getD_eq_getElem?_getD, List.getElem?_eq_getElem (show g.a.toNat < ins.length by omega)]
    have := List.any_eq_false.1 hi _ (List.getElem_mem (show g.a.toNat < ins.length by omega))
    simp [badB] at this
    simp only [Option.getD_some]
    omega
  · rw [if_neg (by omega), if_neg (by omega), if_neg (by omega)]
    exact ⟨h2, h3⟩
  · rw [if_neg (by omega), if_pos h1]
    exact ⟨Int.emod_nonneg _ (by omega), Int.emod_lt_of_pos _ (by omega)⟩
  · rw [if_neg (by omega), if_neg (by omega), if_pos h1]
    exact ⟨Int.emod_nonneg _ (by omega), Int.emod_lt_of_pos _ (by omega)⟩
theorem clearTo_rng {p : Int} {ins : List Int} {gs : List Ga} (hp : 1 ≤ p) (hG : GoodG p gs ins) : ∀ {I : Nat}, I ≤ gs.length → ∀ x ∈ clearTo p ins gs I, 0 ≤ x ∧ x < p
  | 0, _, x, hx => by cases hx
  | I + 1, h, x, hx => by
    have hg := List.getElem?_eq_getElem (show I < gs.length by omega)
    rw [clearTo_step hg] at hx
    rcases List.mem_append.1 hx with h1 | h1
    · exact clearTo_rng hp hG (by omega) x h1
    · rw [List.mem_singleton.1 h1]
      exact clearS_rng hp hG.rng (hG.ok I _ hg)
theorem parts_Clear_bad (p : Int) (a b : Option Addr) (c d : Nat) (gs : List Ga) (ins : List Int) (w : World) (h1 : RowGa w a gs) (h2 : RowL w b d ins) (l1 : gs.length ≤ 9223372036854775807) (l2 : ins.length ≤ 4611686018427387904) (hb : ¬ GoodG p gs ins) :
    Calls Try.prog 31 #[.int .i64 p, .slice a gs.length c, .slice b ins.length d] w fun e w' => (∃ E : Int, E ≠ 0 ∧ e = .returned (.tuple #[.slice none 0 0, .int .i64 E])) ∧ Below w.heap.size w w' := by
  have HW := Lib.hid (parts_wrong p a b c d gs ins w h1 h2 l1 l2)
  have HB := Lib.hid hb
  obtain ⟨m, hm⟩ : ∃ m, ins.length = m := ⟨_, rfl⟩
  obtain ⟨N, hN⟩ : ∃ m, gs.length = m := ⟨_, rfl⟩
  rw [hm, hN] at HW ⊢
  clear h1 h2 l1 l2 hb hm hN
  go_enter Try.func31, Try.ntmps31
  go_wp2_with fail
  refine HW.out.mono ?_
  rintro e w1 ⟨⟨E, rfl, hE⟩, hb1⟩
  have h0 : E ≠ 0 := fun e => HB.out (hE.1 e)
  have e1 : (E != 0) = true := by simpa using h0
  have e2 : (E == 0) = false := by simpa using h0
  have HE := Lib.hid h0
  clear hE h0
  go_wp2_with fail
  go_ret2
  exact ⟨⟨E, HE.out, rfl⟩, hb1⟩
set_option maxRecDepth 20000 in
set_option maxHeartbeats 6400000 in
theorem parts_Clear (p : Int) (a b : Option Addr) (c d : Nat) (gs : List Ga) (ins : List Int) (w : World) (h1 : RowGa w a gs) (h2 : RowL w b d ins) (hG : GoodG p gs ins) :
    Calls Try.prog 31 #[.int .i64 p, .slice a gs.length c, .slice b ins.length d] w fun e w' => (∃ v, e = .returned (.tuple #[v, .int .i64 0]) ∧ w'.ownsRow w.heap.size 2 1 v gs.length (inV (clearTo p ins gs gs.length))) ∧ Below w.heap.size w w' := by
  have HW := Lib.hid (parts_wrong p a b c d gs ins w h1 h2 (by have := hG.lg; omega) (by have := hG.li; omega))
  have hpp := primeE_zero hG.pr
  have HG := Lib.hid hG
  have hl1 := hG.lg
  have hl2 := hG.li
  obtain ⟨i0, hi, hz0, hz1, hz2⟩ := info_parts long_info
  have hu : Try.prog.underlying 22 = some (.slice 2) := by kernel_rfl
  have HR := Lib.hid h1
  have HI2 := Lib.hid h2
  obtain ⟨m, hm⟩ : ∃ m, ins.length = m := ⟨_, rfl⟩
  obtain ⟨N, hN⟩ : ∃ m, gs.length = m := ⟨_, rfl⟩
  have HM := Lib.hid hm
  have HN := Lib.hid hN
  rw [hm] at HW hl2
  rw [hN] at HW hl1
  rw [hm, hN]
  have p0 : (p == 0) = false := by simp; omega
  have p1 : ¬ p = 0 := by omega
  have hp1 : 1 ≤ p := by omega
  have hp2 : p ≤ 251 := hpp.2.1
  clear h1 h2 hG hm hN hpp
  go_enter Try.func31, Try.ntmps31
  go_wp2_with fail
  refine HW.out.mono ?_
  rintro e w1 ⟨⟨E, rfl, hE⟩, hb1⟩
  have h0 : E = 0 := hE.2 HG.out
  subst h0
  have HB1 := Lib.hid hb1
  clear hE hb1
  go_wp2_with fail
  go_loopw [9, 22] (fun lv iv wr => ∃ I : Nat, iv = .int .i64 I ∧ I ≤ N ∧ Hid (Below w.heap.size w wr) ∧ Hid (wr.ownsRow w.heap.size 2 1 lv I (inV (clearTo p ins gs I)))) (fun _ iv _ => N - (intOf iv).toNat)
  case atStart => exact ⟨0, rfl, by omega, HB1, Lib.hid (World.ownsRow_nil _ _ _ _)⟩
  case round =>
    obtain ⟨I, rfl, hI, HB, HO⟩ := hrel
    clear HB1 HW
    by_cases hIe : I = N
    · subst hIe
      go_wp2_with fail
      go_ret2
      exact ⟨⟨_, rfl, HO.out⟩, HB.out⟩
    · have hI2 : (I : Int) < N := by omega
      have hI3 : I < N := by omega
      obtain ⟨g, hg⟩ : ∃ g, gs[I]? = some g := ⟨_, List.getElem?_eq_getElem (by rw [HN.out]; exact hI3)⟩
      obtain ⟨bb, o, rfl, hcell⟩ := HR.out.shape (by rw [HN.out]; omega)
      obtain ⟨q0, q1, q2, q3⟩ := hcell I g hg
      have zb : bb < w.heap.size := World.block_lt_of_cell? _ _ q0
      have k0 := kept HB.out q0 zb
      have k1 := kept HB.out q1 zb
      have k2 := kept HB.out q2 zb
      have k3 := kept HB.out q3 zb
      have hga := gaE_cases (HG.out.ok I g hg)
      have HST := Lib.hid (clearTo_step (p := p) (ins := ins) hg)
      have hown := HO.out
      have hbel := HB.out
      have hz := HB.out.size
      have hLl : (clearTo p ins gs I).length = I := clearTo_len (by rw [HN.out]; omega)
      have HRG := Lib.hid (clearTo_rng hp1 HG.out (I := I) (by rw [HN.out]; omega))
      obtain ⟨l, hl⟩ : ∃ l, clearTo p ins gs I = l := ⟨_, rfl⟩
      rw [hl] at hown hLl HST HRG
      clear hcell q0 q1 q2 q3 hg hI hl HO
      obtain ⟨gk, ga, gb, gn⟩ := g
      simp only at hga k0 k1 k2 k3
      rcases hga with ⟨rfl, a1, a2⟩ | ⟨rfl, n1, n2⟩ | ⟨hk, ⟨a1, a2⟩, b1, b2⟩
      · obtain ⟨A, rfl⟩ := Int.eq_ofNat_of_zero_le a1
        rw [HM.out] at a2
        have a3 : A < m := by omega
        obtain ⟨b', o', rfl, hc⟩ := HI2.out.shape (by rw [HM.out]; omega)
        obtain ⟨y, hy⟩ : ∃ y, ins[A]? = some y := ⟨_, List.getElem?_eq_getElem (by rw [HM.out]; exact a3)⟩
        have r0 := hc A y hy
        have zr : b' < w.heap.size := World.block_lt_of_cell? _ _ r0
        have kr := kept HB.out r0 zr
        have kr2 := kept (alloc_below wr (.cells #[.int .i64 1, .int .i64 (A : Nat), .int .i64 gb, .int .i64 gn] 80)) kr (by omega)
        have HST1 : Hid (clearTo p ins gs (I + 1) = l ++ [y]) := Lib.hid (by
          rw [HST.out]
          unfold clearS
          rw [if_pos rfl]
          show l ++ [ins.getD A 0] = _
          rw [List.getD_eq_getElem?_getD, hy]; rfl)
        clear hc hy r0 HST kr
        go_wp2_with (first
          | (at_builtin; refine wpList_append_own _ rfl _ _ 22 rfl w.heap.size 2 i0 (.int .i64 0) 1 8 hu hi hz0 hz1 hz2 rfl (by decide) _ _ _ rfl ((hown.alloc _).alloc _) ⟨wr.heap.size + 1, 0, none⟩ 1 1 [.int .i64 (y)] rfl rfl (cell_newLn (by simp) rfl) (by simp [Value.oneCell']) (by unfold maxLen; omega) (by omega) (by simp; omega) ?_; intro v' w2 hown' hg2 hnil2))
        have kk2 := ((hbel.alloc hz (.cells #[.int .i64 1, .int .i64 (A : Nat), .int .i64 gb, .int .i64 gn] 80)).alloc (by simp; omega) (.cells #[.int .i64 (y)] 2)).grown hg2 (by simp; omega) (fun j hj => (hown.lt j hj).1)
        go_round
        case rel => exact ⟨I + 1, by go_num, by omega, Lib.hid kk2, Lib.hid (by rw [HST1.out]; simpa [inV] using hown')⟩
        case measure => simp [intOf]; omega
      · have HST1 : Hid (clearTo p ins gs (I + 1) = l ++ [gn]) := Lib.hid (by rw [HST.out]; rfl)
        clear HST
        go_wp2_with (first
          | (at_builtin; refine wpList_append_own _ rfl _ _ 22 rfl w.heap.size 2 i0 (.int .i64 0) 1 8 hu hi hz0 hz1 hz2 rfl (by decide) _ _ _ rfl ((hown.alloc _).alloc _) ⟨wr.heap.size + 1, 0, none⟩ 1 1 [.int .i64 (gn)] rfl rfl (cell_newLn (by simp) rfl) (by simp [Value.oneCell']) (by unfold maxLen; omega) (by omega) (by simp; omega) ?_; intro v' w2 hown' hg2 hnil2))
        have kk2 := ((hbel.alloc hz (.cells #[.int .i64 2, .int .i64 ga, .int .i64 gb, .int .i64 gn] 80)).alloc (by simp; omega) (.cells #[.int .i64 (gn)] 2)).grown hg2 (by simp; omega) (fun j hj => (hown.lt j hj).1)
        go_round
        case rel => exact ⟨I + 1, by go_num, by omega, Lib.hid kk2, Lib.hid (by rw [HST1.out]; simpa [inV] using hown')⟩
        case measure => simp [intOf]; omega
      · obtain ⟨A, rfl⟩ := Int.eq_ofNat_of_zero_le a1
        obtain ⟨B, rfl⟩ := Int.eq_ofNat_of_zero_le b1
        have a3 : A < I := by omega
        have b3 : B < I := by omega
        obtain ⟨gl, cl, rfl, hg1, hg2, hg3, hg4⟩ := own_shape hown (by omega)
        obtain ⟨x, hx⟩ : ∃ x, l[A]? = some x := ⟨_, List.getElem?_eq_getElem (by omega)⟩
        obtain ⟨y, hy⟩ : ∃ x, l[B]? = some x := ⟨_, List.getElem?_eq_getElem (by omega)⟩
        have r1 := own_cell hown (show (inV l)[A]? = some (.int .i64 x) by simp [inV, hx])
        have r2 := own_cell hown (show (inV l)[B]? = some (.int .i64 y) by simp [inV, hy])
        have kr1 := kept (alloc_below wr (.cells #[.int .i64 gk, .int .i64 (A : Nat), .int .i64 (B : Nat), .int .i64 gn] 80)) r1 hg2
        have kr2 := kept (alloc_below wr (.cells #[.int .i64 gk, .int .i64 (A : Nat), .int .i64 (B : Nat), .int .i64 gn] 80)) r2 hg2
        obtain ⟨x1, x2⟩ := HRG.out x (List.mem_of_getElem? hx)
        obtain ⟨y1, y2⟩ := HRG.out y (List.mem_of_getElem? hy)
        have hgx : l.getD A 0 = x := by rw [List.getD_eq_getElem?_getD, hx]; rfl
        have hgy : l.getD B 0 = y := by rw [List.getD_eq_getElem?_getD, hy]; rfl
        have hsum : 0 ≤ x + y ∧ x + y ≤ 1000 := by omega
        have hprd := mul_bd2 hp2 x1 x2 y1 y2
        rcases hk with rfl | rfl
        · have HST1 : Hid (clearTo p ins gs (I + 1) = l ++ [(x + y) % p]) := Lib.hid (by
            rw [HST.out]
            show l ++ [(l.getD A 0 + l.getD B 0) % p] = _
            rw [hgx, hgy])
          have f1 : IntKind.i64.wrap (x + y) = x + y := IntWalk.i64_in _ (by omega)
          have f2 : (x + y).tmod p = (x + y) % p := Int.tmod_eq_emod_of_nonneg (by omega)
          have f3 : wrap64 (x + y) = x + y := by unfold wrap64; omega
          clear HST hx hy r1 r2 hgx hgy
          go_wp2_with fail
          go_region
          go_wp2_with (first
            | (at_builtin; refine wpList_append_own _ rfl _ _ 22 rfl w.heap.size 2 i0 (.int .i64 0) 1 8 hu hi hz0 hz1 hz2 rfl (by decide) _ _ _ rfl (((hown.alloc _).drew).alloc _) ⟨wr.heap.size + 1, 0, none⟩ 1 1 [.int .i64 ((x + y) % p)] rfl rfl (cell_newLn (by simp) rfl) (by simp [Value.oneCell']) (by unfold maxLen; omega) (by omega) (by simp; omega) ?_; intro v' w2 hown' hg2 hnil2))
          have kk2 := (((hbel.alloc hz (.cells #[.int .i64 3, .int .i64 (A : Nat), .int .i64 (B : Nat), .int .i64 gn] 80)).drew).alloc (by simp; omega) (.cells #[.int .i64 ((x + y) % p)] 2)).grown hg2 (by simp; omega) (fun j hj => (hown.lt j hj).1)
          go_round
          case rel => exact ⟨I + 1, by go_num, by omega, Lib.hid kk2, Lib.hid (by rw [HST1.out]; simpa [inV] using hown')⟩
          case measure => simp [intOf]; omega
        · have HST1 : Hid (clearTo p ins gs (I + 1) = l ++ [x * y % p]) := Lib.hid (by
            rw [HST.out]
            show l ++ [l.getD A 0 * l.getD B 0 % p] = _
            rw [hgx, hgy])
          have f1 : IntKind.i64.wrap (x * y) = x * y := IntWalk.i64_in _ (by omega)
          have f2 : (x * y).tmod p = (x * y) % p := Int.tmod_eq_emod_of_nonneg (by omega)
          have f3 : wrap64 (x * y) = x * y := by unfold wrap64; omega
          clear HST hx hy r1 r2 hgx hgy
          go_wp2_with fail
          go_region
          go_wp2_with (first
            | (at_builtin; refine wpList_append_own _ rfl _ _ 22 rfl w.heap.size 2 i0 (.int .i64 0) 1 8 hu hi hz0 hz1 hz2 rfl (by decide) _ _ _ rfl (((hown.alloc _).drew).alloc _) ⟨wr.heap.size + 1, 0, none⟩ 1 1 [.int .i64 (x * y % p)] rfl rfl (cell_newLn (by simp) rfl) (by simp [Value.oneCell']) (by unfold maxLen; omega) (by omega) (by simp; omega) ?_; intro v' w2 hown' hg2 hnil2))
          have kk2 := (((hbel.alloc hz (.cells #[.int .i64 4, .int .i64 (A : Nat), .int .i64 (B : Nat), .int .i64 gn] 80)).drew).alloc (by simp; omega) (.cells #[.int .i64 (x * y % p)] 2)).grown hg2 (by simp; omega) (fun j hj => (hown.lt j hj).1)
          go_round
          case rel => exact ⟨I + 1, by go_num, by omega, Lib.hid kk2, Lib.hid (by rw [HST1.out]; simpa [inV] using hown')⟩
          case measure => simp [intOf]; omega
end Go.Proofs.Ytfgmnlphejpcaaa

/- parts.parties, parts.each. -/
namespace Go.Proofs.Ytfgmnlphejpcaaa
open Go.RowKit
set_option linter.unusedVariables false
set_option linter.unusedSimpArgs false
def partiesB (p t : Int) : Bool := decide (0 ≤ t) && decide (t ≤ 4) && decide (2 * t + 1 < p)
theorem parts_parties (p t : Int) (w : World) :
    Calls Try.prog 58 #[.int .i64 p, .int .i64 t] w fun e w' => e = .returned (.bool (partiesB p t)) ∧ w = w' := by
  by_cases h1 : 0 ≤ t
  · by_cases h2 : t ≤ 4
    · have e : partiesB p t = decide (2 * t + 1 < p) := by simp [partiesB, h1, h2]
      rw [e]
      have f1 : IntKind.i64.wrap (2 * t) = 2 * t := IntWalk.i64_in _ (by omega)
      have f2 : IntKind.i64.wrap (2 * t + 1) = 2 * t + 1 := IntWalk.i64_in _ (by omega)
      have f3 : wrap64 (2 * t) = 2 * t := by unfold wrap64; omega
      have f4 : wrap64 (2 * t + 1) = 2 * t + 1 := by unfold wrap64; omega
      clear e
      go_enter Try.func58, Try.ntmps58
      go_wp2
      go_ret
      exact ⟨ret_bool (by simp), rfl⟩
    · have e : partiesB p t = false := by simp [partiesB]; omega
      rw [e]
      clear e
      go_enter Try.func58, Try.ntmps58
      go_wp2
      go_ret
      exact ⟨rfl, rfl⟩
  · have e : partiesB p t = false := by simp [partiesB]; omega
    rw [e]
    clear e
    go_enter Try.func58, Try.ntmps58
    go_wp2
    go_ret
    exact ⟨rfl, rfl⟩
/-- of each party's shares -/
def eachL (F : Int → Int → Int) (p : Int) (xs ys : List Int) : Nat → List Int
  | 0 => []
  | I + 1 => eachL F p xs ys I ++ [F (xs.getD I 0) (ys.getD I 0) % p]
theorem eachL_len (F : Int → Int → Int) (p : Int) (xs ys : List Int) : ∀ I, (eachL F p xs ys I).length = I
  | 0 => rfl
  | I + 1 => by simp [eachL, eachL_len F p xs ys I]
theorem eachL_get (F : Int → Int → Int) (p : Int) (xs ys : List Int) : ∀ I j, j < I → (eachL F p xs ys I)[j]? = some (F (xs.getD j 0) (ys.getD j 0) % p)
  | I + 1, j, h => by
    show (eachL F p xs ys I ++ [_])[j]? = _
    by_cases e : j = I
    · subst e
      rw [List.getElem?_append_right (by rw [eachL_len]; exact Nat.le_refl _), eachL_len]; simp
    · rw [List.getElem?_append_left (by rw [eachL_len]; omega), eachL_get F p xs ys I j (by omega)]
set_option maxRecDepth 20000 in
set_option maxHeartbeats 3200000 in
theorem parts_each (F : Int → Int → Int) (g : Nat) (lb : Array Value) (eg : ∀ args w, (callFunc g args).run Try.prog w = .ok (.enter g args) w) (p : Int) (a b : Option Addr) (c d : Nat) (xs ys : List Int) (w : World) {n : Nat} (h1 : RowL w a c xs) (h2 : RowL w b d ys) (e1 : xs.length = n) (e2 : ys.length = n) (hn : n ≤ 1000) (hp : 1 ≤ p)
    (hF : ∀ W x y, Below w.heap.size w W → x ∈ xs → y ∈ ys → 0 ≤ F x y ∧ F x y ≤ 1000000000 ∧ Calls Try.prog g (#[.int .i64 x, .int .i64 y] ++ lb) W fun e w' => e = .returned (.int .i64 (F x y)) ∧ Below W.heap.size W w') :
    Calls Try.prog 62 #[.slice a n c, .slice b n d, .int .i64 p, .func (.func g) #[] lb] w fun e w' => (∃ v, e = .returned v ∧ w'.ownsRow w.heap.size 2 1 v n (inV (eachL F p xs ys n))) ∧ Below w.heap.size w w' := by
  obtain ⟨i0, hi, hz0, hz1, hz2⟩ := info_parts long_info
  have hu : Try.prog.underlying 22 = some (.slice 2) := by kernel_rfl
  have HP := Lib.hid hF
  have HR1 := Lib.hid h1
  have HR2 := Lib.hid h2
  have HL1 := Lib.hid e1
  have HL2 := Lib.hid e2
  have p0 : (p == 0) = false := by simp; omega
  have p1 : ¬ p = 0 := by omega
  clear h1 h2 e1 e2 hF
  go_enter Try.func62, Try.ntmps62
  go_wp2
  go_loopw [9, 14] (fun lv iv wr => ∃ I : Nat, iv = .int .i64 I ∧ I ≤ n ∧ Hid (Below w.heap.size w wr) ∧ Hid (wr.ownsRow w.heap.size 2 1 lv I (inV (eachL F p xs ys I)))) (fun _ iv _ => n - (intOf iv).toNat)
  case atStart => exact ⟨0, rfl, by omega, Lib.hid (Below.refl _ _), Lib.hid (World.ownsRow_nil _ _ _ _)⟩
  case round =>
    obtain ⟨I, rfl, hI, HB, HO⟩ := hrel
    by_cases hIe : I = n
    · subst hIe
      go_wp2_with fail
      go_ret
      exact ⟨⟨_, rfl, HO.out⟩, HB.out⟩
    · have hI2 : (I : Int) < n := by omega
      have hI3 : I < n := by omega
      obtain ⟨b1, o1, rfl, hc1⟩ := (HR1.out.below HB.out (Nat.le_refl _)).shape (by rw [HL1.out]; omega)
      obtain ⟨b2, o2, rfl, hc2⟩ := (HR2.out.below HB.out (Nat.le_refl _)).shape (by rw [HL2.out]; omega)
      obtain ⟨x, hx⟩ : ∃ x, xs[I]? = some x := ⟨_, List.getElem?_eq_getElem (by rw [HL1.out]; exact hI3)⟩
      obtain ⟨y, hy⟩ : ∃ x, ys[I]? = some x := ⟨_, List.getElem?_eq_getElem (by rw [HL2.out]; exact hI3)⟩
      have kx := hc1 I x hx
      have ky := hc2 I y hy
      have HST : Hid (eachL F p xs ys (I + 1) = eachL F p xs ys I ++ [F x y % p]) := Lib.hid (by
        show eachL F p xs ys I ++ [F (xs.getD I 0) (ys.getD I 0) % p] = _
        rw [List.getD_eq_getElem?_getD, List.getD_eq_getElem?_getD, hx, hy]; rfl)
      obtain ⟨f1, f2, hcall⟩ := HP.out wr x y HB.out (List.mem_of_getElem? hx) (List.mem_of_getElem? hy)
      have HC := Lib.hid hcall
      obtain ⟨q, hq⟩ : ∃ q, F x y = q := ⟨_, rfl⟩
      rw [hq] at HC HST f1 f2
      have f3 : q.tmod p = q % p := Int.tmod_eq_emod_of_nonneg f1
      clear hc1 hc2 hx hy hcall hq
      go_wp2_with (first
        | (go_at_fn g; refine HC.out.mono ?_; rintro e w1 ⟨rfl, hb1⟩; have hown := own_keep HO.out hb1; have hbel := below_two HB.out hb1; have hz := hbel.size; clear hb1 kx ky)
        | (at_builtin; refine wpList_append_own _ rfl _ _ 22 rfl w.heap.size 2 i0 (.int .i64 0) 1 8 hu hi hz0 hz1 hz2 rfl (by decide) _ _ _ rfl (hown.alloc _) ⟨w1.heap.size, 0, none⟩ 1 1 [.int .i64 (q % p)] rfl rfl (cell_newL _ _ _ rfl) (by simp [Value.oneCell']) (by unfold maxLen; omega) (by omega) (by simp; omega) ?_; intro v' w2 hown' hg2 hnil2; have kk2 := ((hbel.alloc hz (.cells #[.int .i64 (q % p)] 2)).grown hg2 (by simp; omega) (fun j hj => (hown.lt j hj).1))))
      go_round
      case rel => exact ⟨I + 1, by go_num, by omega, Lib.hid kk2, Lib.hid (by rw [HST.out]; simpa [inV] using hown')⟩
      case measure => simp [intOf]; omega
end Go.Proofs.Ytfgmnlphejpcaaa

/- (*parts.crowd).weight. -/
namespace Go.Proofs.Ytfgmnlphejpcaaa
open Go.RowKit
set_option linter.unusedVariables false
set_option linter.unusedSimpArgs false
def xsN (n : Nat) : List Int := (List.range n).map fun i : Nat => (i : Int) + 1
theorem xsN_len (n : Nat) : (xsN n).length = n := by simp [xsN]
theorem xsN_step (n : Nat) : xsN (n + 1) = xsN n ++ [(n : Int) + 1] := by simp [xsN, List.range_succ]
theorem xsN_mem {n : Nat} {x : Int} : x ∈ xsN n ↔ 1 ≤ x ∧ x ≤ n := by
  unfold xsN
  rw [List.mem_map]
  constructor
  · rintro ⟨i, hi, rfl⟩
    have := List.mem_range.1 hi
    omega
  · rintro ⟨h1, h2⟩
    exact ⟨(x - 1).toNat, List.mem_range.2 (by omega), by omega⟩
theorem xsN_nodup (n : Nat) : (xsN n).Nodup := by
  unfold xsN
  rw [List.nodup_iff_pairwise_ne, List.pairwise_map]
  exact (List.nodup_iff_pairwise_ne.1 List.nodup_range).imp fun h e => h (by omega)
theorem prodL_append : ∀ (a b : List Int), prodL (a ++ b) = prodL a * prodL b
  | [], b => by show prodL b = 1 * prodL b; omega
  | x :: a, b => by show x * prodL (a ++ b) = x * prodL a * prodL b; rw [prodL_append a b, Int.mul_assoc]
theorem Zx_step {n : Nat} {x t : Int} : Zx (xsN (n + 1)) x t = if (n : Int) + 1 = x then Zx (xsN n) x t else Zx (xsN n) x t * ((n : Int) + 1 - t) := by
  unfold Zx
  rw [xsN_step, List.filter_append]
  by_cases h : (n : Int) + 1 = x
  · rw [if_pos h]; simp [h]
  · rw [if_neg h, List.filter_cons_of_pos (by simpa using h), List.filter_nil, List.map_append, prodL_append]
    rw [show prodL (List.map (fun z => z - t) [(n : Int) + 1]) = (n : Int) + 1 - t from Int.mul_one _]
theorem Zx_nil (x t : Int) : Zx (xsN 0) x t = 1 := rfl
theorem prod_bdw {p a b : Int} (hp : p ≤ 251) (h1 : 0 ≤ a ∧ a < p) (h2 : -251 ≤ b ∧ b ≤ 251) : -1000000 ≤ a * b ∧ a * b ≤ 1000000 := by
  obtain ⟨q, hq⟩ : ∃ q, q = b + 251 := ⟨_, rfl⟩
  have := Int.mul_nonneg h1.1 (show 0 ≤ q by omega)
  have h3 := Int.mul_nonneg h1.1 (show 0 ≤ 502 - q by omega)
  have e : b = q - 251 := by omega
  subst e
  rw [Int.mul_sub] at h3 ⊢
  omega
set_option maxRecDepth 20000 in
set_option maxHeartbeats 6400000 in
theorem crowd_weight (p : Int) (n x cb : Nat) (w : World) (k0 : w.cell? ⟨cb, 0, none⟩ = some (.int .i64 p)) (k2 : w.cell? ⟨cb, 2, none⟩ = some (.int .i64 n)) (hpr : prB p = true) (hp1 : 2 ≤ p) (hp2 : p ≤ 251) (hn : (n : Int) < p) (hx1 : 1 ≤ x) (hx2 : x ≤ n) :
    Calls Try.prog 79 #[.pointer (some ⟨cb, 0, none⟩), .int .i64 x] w fun e w' => (∃ W : Int, e = .returned (.int .i64 W) ∧ 0 ≤ W ∧ W < p ∧ W * Zx (xsN n) x x % p = Zx (xsN n) x 0 % p) ∧ Below w.heap.size w w' := by
  have hcb : cb < w.heap.size := World.block_lt_of_cell? _ _ k0
  have p0 : (p == 0) = false := by simp; omega
  have p1 : ¬ p = 0 := by omega
  have HPR := Lib.hid hpr
  have HMod := Lib.hid fun a W => euclid_Mod a p W (by omega) (by omega)
  have HInv := Lib.hid fun a W (h1 : -2147483648 ≤ a) (h2 : a ≤ 2147483648) => euclid_Inverse a p W h1 h2 (by omega) (by omega)
  clear hpr
  go_enter Try.func79, Try.ntmps79
  go_wp2
  go_loopw [5, 6, 7] (fun uv dv zv wr => ∃ (I : Nat) (U D : Int), uv = .int .i64 U ∧ dv = .int .i64 D ∧ zv = .int .i64 ((I : Int) + 1) ∧ I ≤ n ∧ Hid (U = Zx (xsN I) x 0 % p) ∧ Hid (D = Zx (xsN I) x x % p) ∧ Hid (Below w.heap.size w wr)) (fun _ _ zv _ => n + 1 - (intOf zv).toNat)
  case atStart => exact ⟨0, 1, 1, rfl, rfl, rfl, by omega, Lib.hid (by rw [Zx_nil, Int.emod_eq_of_lt (by omega) (by omega)]), Lib.hid (by rw [Zx_nil, Int.emod_eq_of_lt (by omega) (by omega)]), Lib.hid (Below.refl _ _)⟩
  case round =>
    obtain ⟨I, U, D, rfl, rfl, rfl, hI, HU, HD, HB⟩ := hrel
    have q0 := kept HB.out k0 hcb
    have q2 := kept HB.out k2 hcb
    have u1 : 0 ≤ U ∧ U < p := by rw [HU.out]; exact ⟨Int.emod_nonneg _ (by omega), Int.emod_lt_of_pos _ (by omega)⟩
    have d1 : 0 ≤ D ∧ D < p := by rw [HD.out]; exact ⟨Int.emod_nonneg _ (by omega), Int.emod_lt_of_pos _ (by omega)⟩
    by_cases hIe : I = n
    · subst hIe
      have z1 : ¬ ((I : Int) + 1 ≤ I) := by omega
      have hun : D ≠ 0 := by
        rw [HD.out]
        exact Zx_unit HPR.out hp1 (fun z hz => by have := xsN_mem.1 hz; omega) (xsN_mem.2 ⟨by omega, by omega⟩)
      have HC := Lib.hid fun W => HInv.out D W (by omega) (by omega)
      have HUN := Lib.hid hun
      clear hI hun HMod HInv k0 k2
      go_wp2_with fail
      refine (HC.out _).mono ?_
      rintro e w1 ⟨(⟨_, y, rfl, y1, y2, y3⟩ | ⟨hne, _⟩), hb⟩
      · have q0' := kept hb q0 (by have := HB.out.size; omega)
        have hbb := below_two HB.out hb
        have m1 := prod_bdw hp2 u1 (show -251 ≤ y ∧ y ≤ 251 by omega)
        have m2 : 0 ≤ U * y := Int.mul_nonneg u1.1 y1
        have f1 : IntKind.i64.wrap (U * y) = U * y := IntWalk.i64_in _ (by omega)
        have f2 : (U * y).tmod p = (U * y) % p := Int.tmod_eq_emod_of_nonneg m2
        have f3 : wrap64 (U * y) = U * y := by unfold wrap64; omega
        have HY : Hid (y * D % p = 1) := Lib.hid (by
          have := Int.emod_eq_emod_iff_emod_sub_eq_zero.2 (Int.emod_eq_zero_of_dvd y3)
          rw [this, Int.emod_eq_of_lt (by omega) (by omega)])
        clear y3 HC q0 q2 hb
        go_wp2_with fail
        go_ret
        refine ⟨⟨U * y % p, rfl, Int.emod_nonneg _ (by omega), Int.emod_lt_of_pos _ (by omega), ?_⟩, hbb⟩
        rw [← HU.out, Int.mul_emod, Int.emod_emod, ← HD.out, show U * y % p * D % p = U * y * D % p by rw [Int.mul_emod, Int.emod_emod, ← Int.mul_emod], Int.mul_assoc, Int.mul_emod, HY.out, Int.mul_one, Int.emod_emod]
        exact Int.emod_eq_of_lt u1.1 u1.2
      · exfalso
        obtain ⟨P, rfl⟩ := Int.eq_ofNat_of_zero_le (show 0 ≤ p by omega)
        have hP : M.Pr P := by simpa using prB_true HPR.out
        refine hne ?_
        rw [Int.gcd_comm]
        refine hP.gcd_int fun hd => ?_
        have h0 := HUN.out
        have := Int.le_of_dvd (by omega) hd
        omega
    · have z1 : (I : Int) + 1 ≤ n := by omega
      have z2 : IntKind.i64.wrap ((I : Int) + 1 + 1) = (I : Int) + 1 + 1 := IntWalk.i64_in _ (by omega)
      by_cases hxe : (I : Int) + 1 = x
      · have HU2 : Hid (U = Zx (xsN (I + 1)) x 0 % p) := Lib.hid (by rw [Zx_step, if_pos hxe]; exact HU.out)
        have HD2 : Hid (D = Zx (xsN (I + 1)) x x % p) := Lib.hid (by rw [Zx_step, if_pos hxe]; exact HD.out)
        clear HU HD
        go_wp2_with fail
        go_round
        case rel => exact ⟨I + 1, U, D, rfl, rfl, by go_num, by omega, HU2, HD2, HB⟩
        case measure => simp [intOf]; omega
      · have hz1 : 0 ≤ (I : Int) + 1 ∧ (I : Int) + 1 ≤ 251 := by omega
        have hz2 : -251 ≤ (I : Int) + 1 - x ∧ (I : Int) + 1 - x ≤ 251 := by omega
        have HU2 : Hid (U * ((I : Int) + 1) % p = Zx (xsN (I + 1)) x 0 % p) := Lib.hid (by rw [Zx_step, if_neg hxe, HU.out, Int.sub_zero, Int.mul_emod, Int.emod_emod, ← Int.mul_emod])
        have HD2 : Hid (D * ((I : Int) + 1 - x) % p = Zx (xsN (I + 1)) x x % p) := Lib.hid (by rw [Zx_step, if_neg hxe, HD.out, Int.mul_emod, Int.emod_emod, ← Int.mul_emod])
        have m1 := prod_bdw hp2 u1 (show -251 ≤ (I : Int) + 1 ∧ (I : Int) + 1 ≤ 251 by omega)
        have m2 : 0 ≤ U * ((I : Int) + 1) := Int.mul_nonneg u1.1 (by omega)
        have m3 := prod_bdw hp2 d1 hz2
        have m4 : (U * ((I : Int) + 1)).tmod p = U * ((I : Int) + 1) % p := Int.tmod_eq_emod_of_nonneg m2
        obtain ⟨z, hz⟩ : ∃ z, (I : Int) + 1 = z := ⟨_, rfl⟩
        rw [hz] at m1 m2 m3 m4 HU2 HD2 z1 z2 hxe hz1 hz2
        have HZ := Lib.hid hz
        have f1 : IntKind.i64.wrap (U * z) = U * z := IntWalk.i64_in _ (by omega)
        have f2 : wrap64 (U * z) = U * z := by unfold wrap64; omega
        have f3 : IntKind.i64.wrap (z - x) = z - x := IntWalk.i64_in _ (by omega)
        have f4 : wrap64 (z - x) = z - x := by unfold wrap64; omega
        have f5 : IntKind.i64.wrap (D * (z - x)) = D * (z - x) := IntWalk.i64_in _ (by omega)
        have f6 : wrap64 (D * (z - x)) = D * (z - x) := by unfold wrap64; omega
        have f7 : (z == (x : Int)) = false := by simpa using hxe
        have f8 : (z != (x : Int)) = true := by simpa using hxe
        have HM := Lib.hid fun W => HMod.out (D * (z - x)) W
        rw [hz]
        clear HU HD hz hIe hI HMod HInv
        go_wp2_with fail
        have zc : cb < wr.heap.size := by have := HB.out.size; omega
        refine wp_region_D (S := (fun W : World => Below wr.heap.size wr W)) (fun _ => true) (by kernel_rfl) (Below.refl _ _).drew (fun hHeld => ?_)
        simp only [List.size_toArray, List.length_cons, List.length_nil, Nat.reduceAdd, Array.replicate_succ, Array.replicate_zero, List.push_toArray, List.append_toArray, List.nil_append, List.cons_append]
        refine WD_free (i := 0) (oi := _) (v := ?_) rfl (by kernel_rfl) (fun _ _ _ h => h) (Or.inl ⟨by rfl, ?_⟩) ?_
        rotate_left
        · (intro W hS; (try dsimp only at hS); clear hS; go_simp; with_reducible rfl)
        try simp only [Act.put, List.getElem_toArray, List.getElem_cons_succ, List.getElem_cons_zero, List.setIfInBounds_toArray, List.set_cons_zero, List.set_cons_succ]
        refine WD_free (i := 1) (oi := _) (v := ?_) rfl (by kernel_rfl) (fun _ _ _ h => h) (Or.inl ⟨by rfl, ?_⟩) ?_
        rotate_left
        · (intro W hS; (try dsimp only at hS); clear hS; go_simp; with_reducible rfl)
        try simp only [Act.put, List.getElem_toArray, List.getElem_cons_succ, List.getElem_cons_zero, List.setIfInBounds_toArray, List.set_cons_zero, List.set_cons_succ]
        refine WD_free (i := 2) (oi := _) (v := ?_) rfl (by kernel_rfl) (fun _ _ _ h => h) (Or.inl ⟨by rfl, ?_⟩) ?_
        rotate_left
        · (intro W hS; (try dsimp only at hS); clear hS; go_simp; with_reducible rfl)
        try simp only [Act.put, List.getElem_toArray, List.getElem_cons_succ, List.getElem_cons_zero, List.setIfInBounds_toArray, List.set_cons_zero, List.set_cons_succ]
        refine WD_free (i := 3) (oi := _) (v := ?_) rfl (by kernel_rfl) (fun _ _ _ h => h) (Or.inl ⟨by rfl, ?_⟩) ?_
        rotate_left
        · (intro W hS; (try dsimp only at hS); clear hS; go_simp; with_reducible rfl)
        try simp only [Act.put, List.getElem_toArray, List.getElem_cons_succ, List.getElem_cons_zero, List.setIfInBounds_toArray, List.set_cons_zero, List.set_cons_succ]
        refine WD_free (i := 4) (oi := _) (v := ?_) rfl (by kernel_rfl) (fun _ _ _ h => h) (Or.inl ⟨by rfl, ?_⟩) ?_
        rotate_left
        · (intro W hS; (try dsimp only at hS); clear hS; go_simp; with_reducible rfl)
        try simp only [Act.put, List.getElem_toArray, List.getElem_cons_succ, List.getElem_cons_zero, List.setIfInBounds_toArray, List.set_cons_zero, List.set_cons_succ]
        refine WD_free (i := 5) (oi := _) (v := ?_) rfl (by kernel_rfl) (fun _ _ _ h => h) (Or.inl ⟨by rfl, ?_⟩) ?_
        rotate_left
        · (intro W hS; (try dsimp only at hS); clear hS; go_simp; with_reducible rfl)
        try simp only [Act.put, List.getElem_toArray, List.getElem_cons_succ, List.getElem_cons_zero, List.setIfInBounds_toArray, List.set_cons_zero, List.set_cons_succ]
        refine WD_take (i := 6) (oi := _) (v := ?_) rfl (by kernel_rfl) (fun _ _ _ h => h) (Or.inl ⟨by rfl, ?_⟩) (by assumption) ?_
        rotate_left
        · (intro W hS; (try dsimp only at hS); have kk := (hS.cell (p := ⟨cb, 0, none⟩) zc).trans q0; clear hS; go_simp; with_reducible rfl)
        try simp only [Act.put, List.getElem_toArray, List.getElem_cons_succ, List.getElem_cons_zero, List.setIfInBounds_toArray, List.set_cons_zero, List.set_cons_succ]
        refine WD_free (i := 7) (oi := _) (v := ?_) rfl (by kernel_rfl) (fun _ _ _ h => h) (Or.inl ⟨by rfl, ?_⟩) ?_
        rotate_left
        · (intro W hS; (try dsimp only at hS); clear hS; go_simp; with_reducible rfl)
        try simp only [Act.put, List.getElem_toArray, List.getElem_cons_succ, List.getElem_cons_zero, List.setIfInBounds_toArray, List.set_cons_zero, List.set_cons_succ]
        refine WD_free (i := 8) (oi := _) (v := ?_) rfl (by kernel_rfl) (fun _ _ _ h => h) (Or.inl ⟨by rfl, ?_⟩) ?_
        rotate_left
        · (intro W hS; (try dsimp only at hS); clear hS; go_simp; with_reducible rfl)
        try simp only [Act.put, List.getElem_toArray, List.getElem_cons_succ, List.getElem_cons_zero, List.setIfInBounds_toArray, List.set_cons_zero, List.set_cons_succ]
        refine WD_free (i := 9) (oi := _) (v := ?_) rfl (by kernel_rfl) (fun _ _ _ h => h) (Or.inl ⟨by rfl, ?_⟩) ?_
        rotate_left
        · (intro W hS; (try dsimp only at hS); clear hS; go_simp; with_reducible rfl)
        try simp only [Act.put, List.getElem_toArray, List.getElem_cons_succ, List.getElem_cons_zero, List.setIfInBounds_toArray, List.set_cons_zero, List.set_cons_succ]
        refine WD_free (i := 10) (oi := _) (v := ?_) rfl (by kernel_rfl) (fun _ _ _ h => h) (Or.inl ⟨by rfl, ?_⟩) ?_
        rotate_left
        · (intro W hS; (try dsimp only at hS); clear hS; go_simp; with_reducible rfl)
        try simp only [Act.put, List.getElem_toArray, List.getElem_cons_succ, List.getElem_cons_zero, List.setIfInBounds_toArray, List.set_cons_zero, List.set_cons_succ]
        refine WD_free (i := 11) (oi := _) (v := ?_) rfl (by kernel_rfl) (fun _ _ _ h => h) (Or.inl ⟨by rfl, ?_⟩) ?_
        rotate_left
        · (intro W hS; (try dsimp only at hS); clear hS; go_simp; with_reducible rfl)
        try simp only [Act.put, List.getElem_toArray, List.getElem_cons_succ, List.getElem_cons_zero, List.setIfInBounds_toArray, List.set_cons_zero, List.set_cons_succ]
        refine WD_free (i := 12) (oi := _) (v := ?_) rfl (by kernel_rfl) (fun _ _ _ h => h) (Or.inl ⟨by rfl, ?_⟩) ?_
        rotate_left
        · (intro W hS; (try dsimp only at hS); clear hS; go_simp; with_reducible rfl)
        try simp only [Act.put, List.getElem_toArray, List.getElem_cons_succ, List.getElem_cons_zero, List.setIfInBounds_toArray, List.set_cons_zero, List.set_cons_succ]
        refine WD_free (i := 13) (oi := _) (v := ?_) rfl (by kernel_rfl) (fun _ _ _ h => h) (Or.inl ⟨by rfl, ?_⟩) ?_
        rotate_left
        · (intro W hS; (try dsimp only at hS); clear hS; go_simp; with_reducible rfl)
        try simp only [Act.put, List.getElem_toArray, List.getElem_cons_succ, List.getElem_cons_zero, List.setIfInBounds_toArray, List.set_cons_zero, List.set_cons_succ]
        refine WD_free (i := 14) (oi := _) (v := ?_) rfl (by kernel_rfl) (fun _ _ _ h => h) (Or.inl ⟨by rfl, ?_⟩) ?_
        rotate_left
        · (intro W hS; (try dsimp only at hS); clear hS; go_simp; with_reducible rfl)
        try simp only [Act.put, List.getElem_toArray, List.getElem_cons_succ, List.getElem_cons_zero, List.setIfInBounds_toArray, List.set_cons_zero, List.set_cons_succ]
        refine WD_free (i := 15) (oi := _) (v := ?_) rfl (by kernel_rfl) (fun _ _ _ h => h) (Or.inl ⟨by rfl, ?_⟩) ?_
        rotate_left
        · (intro W hS; (try dsimp only at hS); clear hS; go_simp; with_reducible rfl)
        try simp only [Act.put, List.getElem_toArray, List.getElem_cons_succ, List.getElem_cons_zero, List.setIfInBounds_toArray, List.set_cons_zero, List.set_cons_succ]
        refine WD_take (i := 16) (oi := _) (v := ?_) rfl (by kernel_rfl) (fun _ _ _ h => h) (Or.inl ⟨by rfl, ?_⟩) (by assumption) ?_
        rotate_left
        · (intro W hS; (try dsimp only at hS); have kk := (hS.cell (p := ⟨cb, 0, none⟩) zc).trans q0; clear hS; go_simp; with_reducible rfl)
        try simp only [Act.put, List.getElem_toArray, List.getElem_cons_succ, List.getElem_cons_zero, List.setIfInBounds_toArray, List.set_cons_zero, List.set_cons_succ]
        refine WD_step (i := 17) (o := _) rfl (by kernel_rfl) (fun K hK => ?_)
        go_simp
        refine (HM.out _).mono ?_
        rintro e w1 ⟨rfl, rfl⟩
        go_wp2_with fail
        replace hHeld := hHeld
        refine hK.out _ _ (fun _ _ => hHeld) ?_
        clear hK K
        try simp only [Act.put, List.getElem_toArray, List.getElem_cons_succ, List.getElem_cons_zero, List.setIfInBounds_toArray, List.set_cons_zero, List.set_cons_succ]
        refine WD_free (i := 18) (oi := _) (v := ?_) rfl (by kernel_rfl) (fun _ _ _ h => h) (Or.inl ⟨by rfl, ?_⟩) ?_
        rotate_left
        · (intro W hS; (try dsimp only at hS); clear hS; go_simp; with_reducible rfl)
        try simp only [Act.put, List.getElem_toArray, List.getElem_cons_succ, List.getElem_cons_zero, List.setIfInBounds_toArray, List.set_cons_zero, List.set_cons_succ]
        refine WD_free (i := 19) (oi := _) (v := ?_) rfl (by kernel_rfl) (fun _ _ _ h => h) (Or.inl ⟨by rfl, ?_⟩) ?_
        rotate_left
        · (intro W hS; (try dsimp only at hS); clear hS; go_simp; with_reducible rfl)
        try simp only [Act.put, List.getElem_toArray, List.getElem_cons_succ, List.getElem_cons_zero, List.setIfInBounds_toArray, List.set_cons_zero, List.set_cons_succ]
        refine WD_done (by kernel_rfl) ?_ _

        have HBH := Lib.hid (below_two HB.out hHeld)
        clear hHeld
        go_wp2_with fail
        go_round
        case rel => exact ⟨I + 1, U * z % p, D * (z - x) % p, rfl, rfl, by rw [← HZ.out]; go_num, by have := HZ.out; omega, HU2, HD2, HBH⟩
        case measure => have := HZ.out; simp [intOf]; omega
end Go.Proofs.Ytfgmnlphejpcaaa

/- The closures of parts. -/
namespace Go.Proofs.Ytfgmnlphejpcaaa
open Go.RowKit
set_option linter.unusedVariables false
set_option linter.unusedSimpArgs false
theorem mul1_c (x y : Int) (w : World) (hx : 0 ≤ x ∧ x ≤ 1000) (hy : 0 ≤ y ∧ y ≤ 1000) :
    Calls Try.prog 78 #[.int .i64 x, .int .i64 y] w fun e w' => e = .returned (.int .i64 (x * y)) ∧ Below w.heap.size w w' := by
  have h1 : 0 ≤ x * y := Int.mul_nonneg hx.1 hy.1
  have h2 : x * y ≤ 1000 * 1000 := Int.mul_le_mul hx.2 hy.2 hy.1 (by decide)
  have f1 : IntKind.i64.wrap (x * y) = x * y := IntWalk.i64_in _ (by omega)
  have f2 : wrap64 (x * y) = x * y := by unfold wrap64; omega
  go_enter Try.func78, Try.ntmps78
  go_wp2
  go_ret
  exact ⟨rfl, Below.refl _ _⟩
theorem mul2_c (x y k : Int) (b : Nat) (w : World) (hb : w.cell? ⟨b, 0, none⟩ = some (.int .i64 k)) (hk : 0 ≤ k ∧ k ≤ 1000) (hx : 0 ≤ x ∧ x ≤ 1000) (hy : 0 ≤ y ∧ y ≤ 1000) :
    Calls Try.prog 80 #[.int .i64 x, .int .i64 y, .pointer (some ⟨b, 0, none⟩)] w fun e w' => e = .returned (.int .i64 (x + k * y)) ∧ Below w.heap.size w w' := by
  have h1 : 0 ≤ k * y := Int.mul_nonneg hk.1 hy.1
  have h2 : k * y ≤ 1000 * 1000 := Int.mul_le_mul hk.2 hy.2 hy.1 (by decide)
  have f1 : IntKind.i64.wrap (k * y) = k * y := IntWalk.i64_in _ (by omega)
  have f2 : wrap64 (k * y) = k * y := by unfold wrap64; omega
  have f3 : IntKind.i64.wrap (x + k * y) = x + k * y := IntWalk.i64_in _ (by omega)
  have f4 : wrap64 (x + k * y) = x + k * y := by unfold wrap64; omega
  go_enter Try.func80, Try.ntmps80
  go_wp2
  go_ret
  exact ⟨rfl, Below.refl _ _⟩
theorem play1_c (x y : Int) (w : World) (hx : 0 ≤ x ∧ x ≤ 1000) (hy : 0 ≤ y ∧ y ≤ 1000) :
    Calls Try.prog 63 #[.int .i64 x, .int .i64 y] w fun e w' => e = .returned (.int .i64 (x + y)) ∧ Below w.heap.size w w' := by
  have f1 : IntKind.i64.wrap (x + y) = x + y := IntWalk.i64_in _ (by omega)
  have f2 : wrap64 (x + y) = x + y := by unfold wrap64; omega
  go_enter Try.func63, Try.ntmps63
  go_wp2
  go_ret
  exact ⟨rfl, Below.refl _ _⟩
end Go.Proofs.Ytfgmnlphejpcaaa

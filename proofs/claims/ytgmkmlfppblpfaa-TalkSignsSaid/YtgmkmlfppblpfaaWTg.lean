/- The walk of the statement TalkSigns. -/
import Derived.Test.YtgmkmlfppblpfaaTk9
import Derived.Test.YtgmkmlfppblpfaaWTw
import Derived.Test.YtgmkmlfppblpfaaByt
import Derived.ArgAppend
namespace Go.Proofs.Ytgmkmlfppblpfaa
open Go.RowKit
set_option linter.unusedVariables false
set_option linter.unusedSimpArgs false
theorem ref_TextAsks (P Q G H : Int) (F Y : Nat) (ad : Addr) (c : Nat) (xs : List Nat) (w : World) (q1 : 2 ≤ Q) (q2 : Q ≤ 1048576) (hF : F ≤ 1048576) (hY : Y ≤ 1048576) (h : RowB w (some ad) c xs) (hl : xs.length ≤ 8192) (hx : ∀ x ∈ xs, x < 256) :
    Calls Try.prog 31 #[.agg #[.int .i64 P, .int .i64 Q, .int .i64 G, .int .i64 H], .int .i64 Y, .int .i64 F, .slice (some ad) xs.length c] w fun e w' => e = .returned (.int .i64 ((askN F Y xs : Nat) % Q)) ∧ Below w.heap.size w w' := ref_TextAsks_some P Q G H F Y ad c xs w q1 q2 hF hY h hl hx
set_option maxHeartbeats 3200000 in
theorem talk_Sign_bad (P Q G H s k : Int) (a : Option Addr) (c L : Nat) (w : World) (hL : L ≤ maxLen) (h : ¬ (grpE P Q G H = 0 ∧ powsB Q [s, k] = true) ∨ ((grpE P Q G H = 0 ∧ powsB Q [s, k] = true) ∧ 4088 < L)) :
    Calls Try.prog 29 #[.agg #[.int .i64 P, .int .i64 Q, .int .i64 G, .int .i64 H], .int .i64 s, .int .i64 k, .slice a L c] w fun e w' => (∃ t : Int, ¬ t = 0 ∧ e = .returned (.tuple #[.agg #[.int .i64 0, .int .i64 0, .int .i64 0], .int .i64 t])) ∧ Below w.heap.size w w' := by
  rcases h with h | ⟨⟨hg, hp⟩, hbig⟩
  · have HN := Lib.hid h
    clear h
    go_enter Try.func29, Try.ntmps29
    go_wp2_with fail
    refine (talk_powers_no P Q G H _ 2 [s, k] _ ?r1 (by simp) HN.out).mono ?_
    case r1 => exact RowI.two (by simp [go_sem]) (by simp [go_sem]) (by simp [go_sem] <;> omega)
    rintro e w1 ⟨⟨t, ht, rfl⟩, hb1⟩
    have hta : (t == 0) = false := by simpa using ht
    have htb : (t != 0) = true := by simpa using ht
    have z1 := hb1.size
    simp at z1
    have r0 := kept hb1 (b := w.heap.size + 1) (o := 0) (v := .int .i64 0) (by simp [go_sem]) (by simp [go_sem] <;> omega)
    have s0 := (froz hb1 (b := w.heap.size + 1) (o := 0) (by simp [go_sem] <;> omega)).trans (show _ = false by simp [go_sem])
    have r1 := kept hb1 (b := w.heap.size + 1) (o := 1) (v := .int .i64 0) (by simp [go_sem]) (by simp [go_sem] <;> omega)
    have s1 := (froz hb1 (b := w.heap.size + 1) (o := 1) (by simp [go_sem] <;> omega)).trans (show _ = false by simp [go_sem])
    have r2 := kept hb1 (b := w.heap.size + 1) (o := 2) (v := .int .i64 0) (by simp [go_sem]) (by simp [go_sem] <;> omega)
    have s2 := (froz hb1 (b := w.heap.size + 1) (o := 2) (by simp [go_sem] <;> omega)).trans (show _ = false by simp [go_sem])
    go_wp2
    refine bodyPost_ret (v := .tuple #[.agg #[.int .i64 0, .int .i64 0, .int .i64 0], .int .i64 t]) ?_ rfl ?_
    · simp [results, Try.f29, go_sem, r0, r1, r2]
    · exact ⟨⟨t, ht, rfl⟩, (((below_two ((((Below.refl _ _).alloc (Nat.le_refl _) _).alloc (by simp <;> omega) _).alloc (by simp <;> omega) _) hb1).setCell (by simp) _).setCell (by simp) _).setCell (by simp) _⟩
  · have HG := Lib.hid hg
    have HP := Lib.hid hp
    have HLg := Lib.hid fun w => talk_long a L c w hL
    rw [decide_eq_true hbig] at HLg
    clear hg hp
    go_enter Try.func29, Try.ntmps29
    go_wp2_with fail
    refine (talk_powers P Q G H _ 2 [s, k] _ ?r1 (by simp) HG.out HP.out).mono ?_
    case r1 => exact RowI.two (by simp [go_sem]) (by simp [go_sem]) (by simp [go_sem] <;> omega)
    rintro e w1 ⟨rfl, hb1⟩
    have z1 := hb1.size
    simp at z1
    have r0 := kept hb1 (b := w.heap.size + 1) (o := 0) (v := .int .i64 0) (by simp [go_sem]) (by simp [go_sem] <;> omega)
    have s0 := (froz hb1 (b := w.heap.size + 1) (o := 0) (by simp [go_sem] <;> omega)).trans (show _ = false by simp [go_sem])
    have r1 := kept hb1 (b := w.heap.size + 1) (o := 1) (v := .int .i64 0) (by simp [go_sem]) (by simp [go_sem] <;> omega)
    have s1 := (froz hb1 (b := w.heap.size + 1) (o := 1) (by simp [go_sem] <;> omega)).trans (show _ = false by simp [go_sem])
    have r2 := kept hb1 (b := w.heap.size + 1) (o := 2) (v := .int .i64 0) (by simp [go_sem]) (by simp [go_sem] <;> omega)
    have s2 := (froz hb1 (b := w.heap.size + 1) (o := 2) (by simp [go_sem] <;> omega)).trans (show _ = false by simp [go_sem])
    go_wp2_with fail
    refine (HLg.out _).mono ?_
    rintro e w' ⟨rfl, rfl⟩
    go_wp2
    refine bodyPost_ret (v := .tuple #[.agg #[.int .i64 0, .int .i64 0, .int .i64 0], .int .i64 1]) ?_ rfl ?_
    · simp [results, Try.f29, go_sem, r0, r1, r2]
    · exact ⟨⟨1, by decide, rfl⟩, (((below_two ((((Below.refl _ _).alloc (Nat.le_refl _) _).alloc (by simp <;> omega) _).alloc (by simp <;> omega) _) hb1).setCell (by simp) _).setCell (by simp) _).setCell (by simp) _⟩
theorem wf16' {a : Int} (h : (Lit.int .u16 a).wf = true) : 0 ≤ a ∧ a ≤ 65535 := by
  simpa [Lit.wf, IntKind.min, IntKind.max, IntKind.signed, go_sem] using h
set_option maxRecDepth 100000 in
set_option maxHeartbeats 12800000 in
theorem WTalkSigns (P : Int) (Q : Int) (G : Int) (H : Int) (s : Int) (k : Int) (a3 : Option Addr) (len3 cap3 : Nat) (z3 : List Int) (a4 : Int) (a5 : Int) (w : World) (w0x : (Lit.int .i64 P).wf = true) (w0y : (Lit.int .i64 Q).wf = true) (w0z : (Lit.int .i64 G).wf = true) (w0u : (Lit.int .i64 H).wf = true) (w1 : (Lit.int .i64 s).wf = true) (w2 : (Lit.int .i64 k).wf = true) (w3 : IsRow .u8 w a3 len3 cap3 z3) (w4 : (Lit.int .u16 a4).wf = true) (w5 : (Lit.int .u8 a5).wf = true) :
    Calls Try.prog 12 #[.agg #[.int .i64 P, .int .i64 Q, .int .i64 G, .int .i64 H], .int .i64 s, .int .i64 k, .slice a3 len3 cap3, .int .u16 a4, .int .u8 a5] w fun e w' => e = .returned (.bool true) ∧ Below w.heap.size w w' := by
  obtain ⟨xs, hlen, hrow, hxs, hmax⟩ := w3.bytes
  have k16 := wf16' w4
  have k8 := wf8 w5
  clear w0x w0y w0z w0u w1 w2 w3 w4 w5
  by_cases h : grpE P Q G H = 0 ∧ powsB Q [s, k] = true ∧ ¬ 4088 < len3
  · obtain ⟨hg, hp, hbig⟩ := h
    have HG := Lib.hid hg
    have HP := Lib.hid hp
    have HPW : Hid ((powsB Q [s, k] && (grpE P Q G H == 0)) = true) := Lib.hid (by rw [hp, hg]; rfl)
    have hsk : (0 ≤ s ∧ s < Q) ∧ (0 ≤ k ∧ k < Q) := by simpa [powsB] using hp
    obtain ⟨hs, hk⟩ := hsk
    have ⟨⟨g1, g2, g3, g4, g5, _⟩, _⟩ := grpE_zero hg
    have HSH := Lib.hid ((shE_own (a := s) hg).2 hs)
    obtain ⟨Y, hY⟩ := Int.eq_ofNat_of_zero_le (pw_nonneg G s (show 1 ≤ P by omega))
    obtain ⟨F, hF⟩ := Int.eq_ofNat_of_zero_le (pw_nonneg G k (show 1 ≤ P by omega))
    have yl := pw_lt G s (show 1 ≤ P by omega)
    have fl := pw_lt G k (show 1 ≤ P by omega)
    obtain ⟨A, hA⟩ : ∃ A : Int, (askN F Y xs : Nat) % Q = A := ⟨_, rfl⟩
    have a1 : 0 ≤ A := by rw [← hA]; exact Int.emod_nonneg _ (by omega)
    have a2 : A < Q := by rw [← hA]; exact Int.emod_lt_of_pos _ (by omega)
    have hp3 : powsB Q [s, k, A] = true := pows_three.2 ⟨hs, hk, a1, a2⟩
    have HSA := Lib.hid (speak_said hg hp3)
    have HRI := Lib.hid (speak_right hg hp3)
    rw [hY, hF] at HSA HRI
    have HPub : Hid (∀ W, Calls Try.prog 14 #[.agg #[.int .i64 P, .int .i64 Q, .int .i64 G, .int .i64 H], .int .i64 s] W fun e w' => e = .returned (.tuple #[.int .i64 Y, .int .i64 0]) ∧ Below W.heap.size W w') := Lib.hid fun W => by rw [← hY]; exact group_Public P Q G H s W HSH.out
    rw [hY] at yl
    rw [hF] at fl
    have d1 : decide (4088 < (len3 : Int)) = false := decide_eq_false (by omega)
    subst hlen
    have HSg := Lib.hid fun W (hb : Below w.heap.size w W) => talk_Sign P Q G H s k a3 cap3 xs W hg hp (hrow.below hb (Nat.le_refl _)) (by omega) hxs Y F hY hF
    rw [hA] at HSg
    obtain ⟨v, hv⟩ : ∃ X, (k + A * s) % Q = X := ⟨_, rfl⟩
    rw [hv] at HSA HRI HSg
    have HV : Hid (∀ (a : Option Addr) (c : Nat) (ys : List Nat) (W : World), RowB W a c ys → ys.length ≤ 4088 → (∀ x ∈ ys, x < 256) → Calls Try.prog 30 #[.agg #[.int .i64 P, .int .i64 Q, .int .i64 G, .int .i64 H], .int .i64 Y, .slice a ys.length c, .agg #[.int .i64 F, .int .i64 A, .int .i64 v]] W fun e w' => e = .returned (.tuple #[.bool (A == (askN F Y ys : Nat) % Q), .int .i64 0]) ∧ Below W.heap.size W w') :=
      Lib.hid fun a c ys W h1 h2 h3 => talk_Verify P Q G H A v F Y a c ys W hg HSA.out HRI.out h1 h2 h3
    have HV1 := Lib.hid fun W (hb : Below w.heap.size w W) => HV.out a3 cap3 xs W (hrow.below hb (Nat.le_refl _)) (by omega) hxs
    rw [hA, beq_self_eq_true] at HV1
    have HT : Hid (∀ (ad : Addr) (c : Nat) (ys : List Nat) (W : World), RowB W (some ad) c ys → ys.length ≤ 4088 → (∀ x ∈ ys, x < 256) → Calls Try.prog 31 #[.agg #[.int .i64 P, .int .i64 Q, .int .i64 G, .int .i64 H], .int .i64 Y, .int .i64 F, .slice (some ad) ys.length c] W fun e w' => e = .returned (.int .i64 ((askN F Y ys : Nat) % Q)) ∧ Below W.heap.size W w') :=
      Lib.hid fun ad c ys W h1 h2 h3 => ref_TextAsks P Q G H F Y ad c ys W (by omega) (by omega) (by omega) (by omega) h1 (by omega) h3
    have HR := Lib.hid hrow
    have HX := Lib.hid hxs
    obtain ⟨L, hL⟩ : ∃ L, xs.length = L := ⟨_, rfl⟩
    rw [hL] at HSg HV1 d1 hmax hbig ⊢
    have HL := Lib.hid hL
    clear hg hp hs hk hY hF hA hv hp3 hrow hxs hL
    go_enter Try.func12, Try.ntmps12
    go_wp2_with fail
    refine (HSg.out _ ((Below.refl _ _).alloc (Nat.le_refl _) _)).mono ?_
    rintro e w1 ⟨rfl, hb1⟩
    have z1 := hb1.size
    simp at z1
    have k0 := kept hb1 (b := w.heap.size) (o := 0) (v := .int .i64 P) (by simp [go_sem]) (by simp [go_sem] <;> omega)
    have k1 := kept hb1 (b := w.heap.size) (o := 1) (v := .int .i64 Q) (by simp [go_sem]) (by simp [go_sem] <;> omega)
    have k2 := kept hb1 (b := w.heap.size) (o := 2) (v := .int .i64 G) (by simp [go_sem]) (by simp [go_sem] <;> omega)
    have k3 := kept hb1 (b := w.heap.size) (o := 3) (v := .int .i64 H) (by simp [go_sem]) (by simp [go_sem] <;> omega)
    have hbw1 : Below w.heap.size w w1 := below_two ((Below.refl _ _).alloc (Nat.le_refl _) _) hb1
    have lt1 : w.heap.size < w1.heap.size := by omega
    go_wp2_with fail
    refine (keep_powers P Q G H _ 2 [s, k] _ ?r1 (by simp)).mono ?_
    case r1 => exact RowI.two (by simp [go_sem]) (by simp [go_sem]) (by simp [go_sem])
    rintro e w2 ⟨rfl, hb2⟩
    rw [HPW.out]
    have c0 := kept hb2 (b := w1.heap.size) (o := 0) (v := .int .i64 F) (by simp [go_sem]) (by simp [go_sem] <;> omega)
    have c1 := kept hb2 (b := w1.heap.size) (o := 1) (v := .int .i64 A) (by simp [go_sem]) (by simp [go_sem] <;> omega)
    have c2 := kept hb2 (b := w1.heap.size) (o := 2) (v := .int .i64 v) (by simp [go_sem]) (by simp [go_sem] <;> omega)
    have z2 := hb2.size
    simp at z2
    replace hb2 := below_two (((Below.refl _ w1).alloc (Nat.le_refl _) _).alloc (by simp) _) hb2
    have hbw2 := below_two hbw1 hb2
    replace k0 := kept hb2 k0 (by omega)
    replace k1 := kept hb2 k1 (by omega)
    replace k2 := kept hb2 k2 (by omega)
    replace k3 := kept hb2 k3 (by omega)
    have lt2 : w.heap.size < w2.heap.size := by omega
    go_wp2_with fail
    refine (HPub.out _).mono ?_
    rintro e w3 ⟨rfl, hb3⟩
    have z3 := hb3.size
    have hbw3 := below_two hbw2 hb3
    replace k0 := kept hb3 k0 (by omega)
    replace k1 := kept hb3 k1 (by omega)
    replace k2 := kept hb3 k2 (by omega)
    replace k3 := kept hb3 k3 (by omega)
    replace c0 := kept hb3 c0 (by omega)
    replace c1 := kept hb3 c1 (by omega)
    replace c2 := kept hb3 c2 (by omega)
    have lt3 : w.heap.size < w3.heap.size := by omega
    go_wp2_with fail
    refine (HV1.out _ hbw3).mono ?_
    rintro e w4 ⟨rfl, hb4⟩
    have z4 := hb4.size
    have hbw4 := below_two hbw3 hb4
    replace k0 := kept hb4 k0 (by omega)
    replace k1 := kept hb4 k1 (by omega)
    replace k2 := kept hb4 k2 (by omega)
    replace k3 := kept hb4 k3 (by omega)
    replace c0 := kept hb4 c0 (by omega)
    replace c1 := kept hb4 c1 (by omega)
    replace c2 := kept hb4 c2 (by omega)
    have lt4 : w.heap.size < w4.heap.size := by omega
    clear hb1 hbw1 hb2 hbw2 hb3 hbw3 hb4 HSg HPub HV1 HSH HPW HSA HRI
    by_cases hz : L = 0
    · have e1 : ((L : Int) == 0) = true := by simp; omega
      clear hz
      go_wp2
      go_ret
      exact ⟨rfl, hbw4⟩
    · have e1 : ((L : Int) == 0) = false := by simp; omega
      obtain ⟨I, hI1, hI2⟩ : ∃ I : Nat, Int.tmod a4 (L : Int) = (I : Int) ∧ I < L := by
        have b1 := Int.emod_nonneg a4 (show (L : Int) ≠ 0 by omega)
        have b2 := Int.emod_lt_of_pos a4 (show 0 < (L : Int) by omega)
        exact ⟨(a4 % L).toNat, by rw [Int.tmod_eq_emod_of_nonneg k16.1]; omega, by omega⟩
      have hI3 : a4 % (L : Int) = I := by rw [← hI1, Int.tmod_eq_emod_of_nonneg k16.1]
      obtain ⟨i0, hi, hz0, hz1, hz2⟩ := info_parts byte_info
      have hu : Try.prog.underlying 51 = some (.slice 5) := by kernel_rfl
      have hrow4 := HR.out.below hbw4 (Nat.le_refl _)
      obtain ⟨blk, off, rfl, hcell⟩ := hrow4.shape (by rw [HL.out]; omega)
      have hB1 : Below w4.heap.size w4 (w4.alloc (.cells #[] 5)) := (Below.refl _ _).alloc (Nat.le_refl _) _
      have hrow5 := hrow4.below hB1 (Nat.le_refl _)
      clear hcell
      go_wp2_with (first
        | (at_builtin; refine wpList_append_grows _ rfl _ _ 51 rfl 5 i0 (.int .u8 0) 1 1 hu hi hz0 hz1 hz2 rfl (by decide) (some ⟨w4.heap.size, 0, none⟩) 0 0 [] rfl (fun e => by cases e) rfl (fun b e j u hj => by simp at hj) ⟨blk, off, none⟩ L cap3 (byV xs) rfl (by rw [byV_len, Nat.mul_one]; exact HL.out) (hrow5.2 _ rfl) (byV_one xs) (by omega) (by unfold maxLen; omega) (by omega) ?_; intro v' w5 hown' hg2
           obtain ⟨g, cap', cur, rfl, hg1, hgb, hg3, hg4, hg5, hg6⟩ : ∃ g cap' cur, v' = .slice (some ⟨g, 0, none⟩) L cap' ∧ w4.heap.size + 1 ≤ g ∧ w5.heap[g]? = some (.cells cur 5 (0, 0)) ∧ L ≤ cap' ∧ cap' ≤ maxLen ∧ cur.size = cap' * 1 ∧ cur.toList.take (L * 1) = byV xs := by
             rcases hown'.2 with ⟨_, h0⟩ | h'
             · exact absurd h0 (by omega)
             · simpa using h'
           have cI : w5.cell? ⟨g, I, none⟩ = cur[I]? := by simp [World.cell?, hgb]
           have cI2 : ∃ u, cur[I]? = some u := ⟨_, Array.getElem?_eq_getElem (by omega)⟩
           obtain ⟨u, hu2⟩ := cI2
           rw [hu2] at cI
           have fI : w5.frozen? ⟨g, I, none⟩ = false := by simp [World.frozen?, hgb]
           have zg : g < w5.heap.size := (Array.getElem?_eq_some_iff.1 hgb).1
           have hB2 : Below w4.heap.size w4 w5 := hB1.grown hg2 (by simp) (fun j hj => by cases hj)
           have hB3 : Below w4.heap.size w4 (w5.setCell ⟨g, I, none⟩ (.int .u8 a5)) := hB2.setCell (p := ⟨g, I, none⟩) (by show w4.heap.size ≤ g; omega) _
           replace k0 := kept hB3 k0 (by omega)
           replace k1 := kept hB3 k1 (by omega)
           replace k2 := kept hB3 k2 (by omega)
           replace k3 := kept hB3 k3 (by omega)
           replace c0 := kept hB3 c0 (by omega)
           replace c1 := kept hB3 c1 (by omega)
           replace c2 := kept hB3 c2 (by omega)))
      obtain ⟨X, hX⟩ : ∃ X : Nat, a5 = X := ⟨a5.toNat, by omega⟩
      subst hX
      have hx := HL.out
      have hrowb : RowB (w5.setCell ⟨g, I, none⟩ (.int .u8 (X : Int))) (some ⟨g, 0, none⟩) cap' (xs.set I X) := by
        refine ⟨fun e => (by cases e), fun ad e j u hj => ?_⟩
        cases e
        rw [add_at]
        have hjl : j < L := by
          have := (List.getElem?_eq_some_iff.1 hj).1
          rw [byV_len, List.length_set] at this; omega
        have hcj : w5.cell? ⟨g, j, none⟩ = (byV xs)[j]? := by
          rw [← hg6, List.getElem?_take, if_pos (by omega)]
          simp [World.cell?, hgb]
        by_cases hji : j = I
        · subst hji
          have : u = .int .u8 (X : Int) := by
            simp [byV, List.getElem?_set, show j < xs.length by omega] at hj
            exact hj.symm
          rw [this]
          exact World.cell?_setCell_same' _ _ _ (by simp [cI])
        · have hgj : (⟨g, I, none⟩ : Addr) ≠ ⟨g, j, none⟩ := fun e => hji (by injection e with _ e2 _; exact e2.symm)
          rw [World.cell?_setCell_other (a := (⟨g, I, none⟩ : Addr)) (b := (⟨g, j, none⟩ : Addr)) (h := hgj), hcj]
          simp [byV, List.getElem?_set, show ¬ I = j by omega] at hj ⊢
          exact hj
      have hyl : (xs.set I X).length = L := by rw [List.length_set]; exact hx
      have hyx : ∀ y ∈ xs.set I X, y < 256 := fun y hy => by
        rcases List.mem_or_eq_of_mem_set hy with h | h
        · exact HX.out y h
        · omega
      have HVB := Lib.hid (HV.out (some ⟨g, 0, none⟩) cap' (xs.set I X) _ hrowb (by omega) hyx)
      have HTB := Lib.hid fun W hr => HT.out ⟨g, 0, none⟩ cap' (xs.set I X) W hr (by omega) hyx
      rw [hyl] at HVB HTB
      obtain ⟨A', hA'⟩ : ∃ A' : Int, (askN F Y (xs.set I X) : Nat) % Q = A' := ⟨_, rfl⟩
      rw [hA'] at HVB HTB
      obtain ⟨w6, hw6⟩ : ∃ W, W = w5.setCell ⟨g, I, none⟩ (.int .u8 (X : Int)) := ⟨_, rfl⟩
      rw [← hw6] at k0 k1 k2 k3 c0 c1 c2 hrowb HVB hB3 ⊢
      have z6 := hB3.size
      have hbw6 := below_two hbw4 hB3
      have HRB := Lib.hid hrowb
      obtain ⟨bb, hbb⟩ : ∃ bb : Bool, (A == A') = bb := ⟨_, rfl⟩
      have hbb2 : (A' == A) = bb := by rw [← hbb, Bool.eq_iff_iff, beq_iff_eq, beq_iff_eq]; exact eq_comm
      rw [hbb] at HVB
      clear hw6 hown' cI fI hu2 hgb hg6 hrowb hyl hyx hg1 hg3 hg4 hg5 zg hB1 hB2 hB3 hg2 hI1 hI2 hI3 hrow4 hrow5 hA' hx hbb HL HX HR HV HT hi hz0 hz1 hz2 hu k16 k8
      have lt6 : w.heap.size < w6.heap.size := by omega
      refine HVB.out.mono ?_
      rintro e w7 ⟨rfl, hb7⟩
      have z7 := hb7.size
      have hbw7 := below_two hbw6 hb7
      have hrow7 := HRB.out.below hb7 (Nat.le_refl _)
      replace k0 := kept hb7 k0 (by omega)
      replace k1 := kept hb7 k1 (by omega)
      replace k2 := kept hb7 k2 (by omega)
      replace k3 := kept hb7 k3 (by omega)
      replace c0 := kept hb7 c0 (by omega)
      replace c1 := kept hb7 c1 (by omega)
      replace c2 := kept hb7 c2 (by omega)
      clear HVB HRB hb7 hbw4 hbw6
      go_wp2_with fail
      refine wp_region_D (S := (fun W : World => Below w7.heap.size w7 W)) (fun _ => true) (by kernel_rfl) (Below.refl _ _).drew (fun hHeld => ?_)
      simp only [List.size_toArray, List.length_cons, List.length_nil, Nat.reduceAdd, Array.replicate_succ, Array.replicate_zero, List.push_toArray, List.append_toArray, List.nil_append, List.cons_append]
      refine WD_free (i := 0) (oi := _) (v := ?_) rfl (by kernel_rfl) (fun _ _ _ h => h) (Or.inl ⟨by rfl, ?_⟩) ?_
      rotate_left
      · (intro W hS; (try dsimp only at hS); clear hS; go_simp; with_reducible rfl)
      try simp only [Act.put, List.getElem_toArray, List.getElem_cons_succ, List.getElem_cons_zero, List.setIfInBounds_toArray, List.set_cons_zero, List.set_cons_succ]
      refine WD_free (i := 1) (oi := _) (v := ?_) rfl (by kernel_rfl) (fun _ _ _ h => h) (Or.inl ⟨by rfl, ?_⟩) ?_
      rotate_left
      · (intro W hS; (try dsimp only at hS); clear hS; go_simp; with_reducible rfl)
      try simp only [Act.put, List.getElem_toArray, List.getElem_cons_succ, List.getElem_cons_zero, List.setIfInBounds_toArray, List.set_cons_zero, List.set_cons_succ]
      refine WD_free (i := 2) (oi := _) (v := ?_) rfl (by kernel_rfl) (fun _ _ _ h => h) (Or.inl ⟨by rfl, ?_⟩) ?_
      rotate_left
      · (intro W hS; (try dsimp only at hS); clear hS; go_simp; with_reducible rfl)
      try simp only [Act.put, List.getElem_toArray, List.getElem_cons_succ, List.getElem_cons_zero, List.setIfInBounds_toArray, List.set_cons_zero, List.set_cons_succ]
      refine WD_free (i := 3) (oi := _) (v := ?_) rfl (by kernel_rfl) (fun _ _ _ h => h) (Or.inl ⟨by rfl, ?_⟩) ?_
      rotate_left
      · (intro W hS; (try dsimp only at hS); clear hS; go_simp; with_reducible rfl)
      try simp only [Act.put, List.getElem_toArray, List.getElem_cons_succ, List.getElem_cons_zero, List.setIfInBounds_toArray, List.set_cons_zero, List.set_cons_succ]
      refine WD_take (i := 4) (oi := _) (v := ?_) rfl (by kernel_rfl) (fun _ _ _ h => h) (Or.inl ⟨by rfl, ?_⟩) (by assumption) ?_
      rotate_left
      · (intro W hS; (try dsimp only at hS); have qk0 := (hS.cell (p := ⟨w.heap.size, 0, none⟩) (World.block_lt_of_cell? _ _ k0)).trans k0; have qk1 := (hS.cell (p := ⟨w.heap.size, 1, none⟩) (World.block_lt_of_cell? _ _ k1)).trans k1; have qk2 := (hS.cell (p := ⟨w.heap.size, 2, none⟩) (World.block_lt_of_cell? _ _ k2)).trans k2; have qk3 := (hS.cell (p := ⟨w.heap.size, 3, none⟩) (World.block_lt_of_cell? _ _ k3)).trans k3; clear hS; go_simp; with_reducible rfl)
      try simp only [Act.put, List.getElem_toArray, List.getElem_cons_succ, List.getElem_cons_zero, List.setIfInBounds_toArray, List.set_cons_zero, List.set_cons_succ]
      refine WD_free (i := 5) (oi := _) (v := ?_) rfl (by kernel_rfl) (fun _ _ _ h => h) (Or.inl ⟨by rfl, ?_⟩) ?_
      rotate_left
      · (intro W hS; (try dsimp only at hS); clear hS; go_simp; with_reducible rfl)
      try simp only [Act.put, List.getElem_toArray, List.getElem_cons_succ, List.getElem_cons_zero, List.setIfInBounds_toArray, List.set_cons_zero, List.set_cons_succ]
      refine WD_free (i := 6) (oi := _) (v := ?_) rfl (by kernel_rfl) (fun _ _ _ h => h) (Or.inl ⟨by rfl, ?_⟩) ?_
      rotate_left
      · (intro W hS; (try dsimp only at hS); clear hS; go_simp; with_reducible rfl)
      try simp only [Act.put, List.getElem_toArray, List.getElem_cons_succ, List.getElem_cons_zero, List.setIfInBounds_toArray, List.set_cons_zero, List.set_cons_succ]
      refine WD_take (i := 7) (oi := _) (v := ?_) rfl (by kernel_rfl) (fun _ _ _ h => h) (Or.inl ⟨by rfl, ?_⟩) (by assumption) ?_
      rotate_left
      · (intro W hS; (try dsimp only at hS); have qc0 := (hS.cell (p := ⟨w1.heap.size, 0, none⟩) (World.block_lt_of_cell? _ _ c0)).trans c0; clear hS; go_simp; with_reducible rfl)
      try simp only [Act.put, List.getElem_toArray, List.getElem_cons_succ, List.getElem_cons_zero, List.setIfInBounds_toArray, List.set_cons_zero, List.set_cons_succ]
      refine WD_free (i := 8) (oi := _) (v := ?_) rfl (by kernel_rfl) (fun _ _ _ h => h) (Or.inl ⟨by rfl, ?_⟩) ?_
      rotate_left
      · (intro W hS; (try dsimp only at hS); clear hS; go_simp; with_reducible rfl)
      try simp only [Act.put, List.getElem_toArray, List.getElem_cons_succ, List.getElem_cons_zero, List.setIfInBounds_toArray, List.set_cons_zero, List.set_cons_succ]
      refine WD_free (i := 10) (oi := _) (v := ?_) rfl (by kernel_rfl) (fun _ _ _ h => h) (Or.inl ⟨by rfl, ?_⟩) ?_
      rotate_left
      · (intro W hS; (try dsimp only at hS); clear hS; go_simp; with_reducible rfl)
      try simp only [Act.put, List.getElem_toArray, List.getElem_cons_succ, List.getElem_cons_zero, List.setIfInBounds_toArray, List.set_cons_zero, List.set_cons_succ]
      refine WD_take (i := 11) (oi := _) (v := ?_) rfl (by kernel_rfl) (fun _ _ _ h => h) (Or.inl ⟨by rfl, ?_⟩) (by assumption) ?_
      rotate_left
      · (intro W hS; (try dsimp only at hS); have qc1 := (hS.cell (p := ⟨w1.heap.size, 1, none⟩) (World.block_lt_of_cell? _ _ c1)).trans c1; clear hS; go_simp; with_reducible rfl)
      try simp only [Act.put, List.getElem_toArray, List.getElem_cons_succ, List.getElem_cons_zero, List.setIfInBounds_toArray, List.set_cons_zero, List.set_cons_succ]
      refine WD_step (i := 9) (o := _) rfl (by kernel_rfl) (fun K hK => ?_)
      go_simp
      refine (HTB.out _ (hrow7.below hHeld (Nat.le_refl _))).mono ?_
      rintro e w8 ⟨rfl, hb8⟩
      go_wp2_with fail
      replace hHeld := below_two hHeld hb8
      refine hK.out _ _ (fun _ _ => hHeld) ?_
      clear hK K
      try simp only [Act.put, List.getElem_toArray, List.getElem_cons_succ, List.getElem_cons_zero, List.setIfInBounds_toArray, List.set_cons_zero, List.set_cons_succ]
      refine WD_free (i := 12) (oi := _) (v := ?_) rfl (by kernel_rfl) (fun _ _ _ h => h) (Or.inl ⟨by rfl, ?_⟩) ?_
      rotate_left
      · (intro W hS; (try dsimp only at hS); clear hS; go_simp; with_reducible rfl)
      try simp only [Act.put, List.getElem_toArray, List.getElem_cons_succ, List.getElem_cons_zero, List.setIfInBounds_toArray, List.set_cons_zero, List.set_cons_succ]
      refine WD_free (i := 13) (oi := _) (v := ?_) rfl (by kernel_rfl) (fun _ _ _ h => h) (Or.inl ⟨by rfl, ?_⟩) ?_
      rotate_left
      · (intro W hS; (try dsimp only at hS); clear hS; go_simp; with_reducible rfl)
      try simp only [Act.put, List.getElem_toArray, List.getElem_cons_succ, List.getElem_cons_zero, List.setIfInBounds_toArray, List.set_cons_zero, List.set_cons_succ]
      refine WD_free (i := 14) (oi := _) (v := ?_) rfl (by kernel_rfl) (fun _ _ _ h => h) (Or.inl ⟨by rfl, ?_⟩) ?_
      rotate_left
      · (intro W hS; (try dsimp only at hS); clear hS; go_simp; with_reducible rfl)
      try simp only [Act.put, List.getElem_toArray, List.getElem_cons_succ, List.getElem_cons_zero, List.setIfInBounds_toArray, List.set_cons_zero, List.set_cons_succ]
      refine WD_free (i := 15) (oi := _) (v := ?_) rfl (by kernel_rfl) (fun _ _ _ h => h) (Or.inl ⟨by rfl, ?_⟩) ?_
      rotate_left
      · (intro W hS; (try dsimp only at hS); clear hS; go_simp; with_reducible rfl)
      try simp only [Act.put, List.getElem_toArray, List.getElem_cons_succ, List.getElem_cons_zero, List.setIfInBounds_toArray, List.set_cons_zero, List.set_cons_succ]
      refine WD_done (by kernel_rfl) ?_ _
      go_wp2
      go_ret
      exact ⟨ret_bool (by simp), below_two hbw7 hHeld⟩
  · have HB : Hid (¬ (grpE P Q G H = 0 ∧ powsB Q [s, k] = true) ∨ ((grpE P Q G H = 0 ∧ powsB Q [s, k] = true) ∧ 4088 < len3)) := Lib.hid (by
      by_cases h1 : grpE P Q G H = 0 ∧ powsB Q [s, k] = true
      · exact .inr ⟨h1, Decidable.not_not.1 fun h2 => h ⟨h1.1, h1.2, h2⟩⟩
      · exact .inl h1)
    obtain ⟨B, hB⟩ : ∃ B : Bool, (powsB Q [s, k] && (grpE P Q G H == 0)) = B := ⟨_, rfl⟩
    have HBB := Lib.hid hB
    have hcase : B = false ∨ (B = true ∧ decide (4088 < (len3 : Int)) = true) := by
      cases B with
      | false => exact .inl rfl
      | true =>
        refine .inr ⟨rfl, decide_eq_true ?_⟩
        simp at hB
        have : 4088 < len3 := by
          rcases HB.out with h1 | h1
          · exact absurd ⟨hB.2, hB.1⟩ h1
          · exact h1.2
        omega
    clear h hB hrow hxs hlen k16 k8
    go_enter Try.func12, Try.ntmps12
    go_wp2_with fail
    refine (talk_Sign_bad P Q G H s k a3 cap3 len3 _ hmax HB.out).mono ?_
    rintro e w1 ⟨⟨t, ht, rfl⟩, hb1⟩
    have htb : (t != 0) = true := by simpa using ht
    have z1 := hb1.size
    simp at z1
    have k0 := kept hb1 (b := w.heap.size) (o := 0) (v := .int .i64 P) (by simp [go_sem]) (by simp [go_sem] <;> omega)
    have k1 := kept hb1 (b := w.heap.size) (o := 1) (v := .int .i64 Q) (by simp [go_sem]) (by simp [go_sem] <;> omega)
    have k2 := kept hb1 (b := w.heap.size) (o := 2) (v := .int .i64 G) (by simp [go_sem]) (by simp [go_sem] <;> omega)
    have k3 := kept hb1 (b := w.heap.size) (o := 3) (v := .int .i64 H) (by simp [go_sem]) (by simp [go_sem] <;> omega)
    have lt1 : w.heap.size < w1.heap.size := by omega
    have hbw1 : Below w.heap.size w w1 := below_two ((Below.refl _ _).alloc (Nat.le_refl _) _) hb1
    go_wp2_with fail
    refine (keep_powers P Q G H _ 2 [s, k] _ ?r1 (by simp)).mono ?_
    case r1 => exact RowI.two (by simp [go_sem]) (by simp [go_sem]) (by simp [go_sem])
    rintro e w2 ⟨rfl, hb2⟩
    rw [HBB.out]
    replace hb2 := below_two (((Below.refl _ w1).alloc (Nat.le_refl _) _).alloc (by simp) _) hb2
    have hbw2 := below_two hbw1 hb2
    rcases hcase with rfl | ⟨rfl, hd⟩
    all_goals
      go_wp2
      go_ret
      exact ⟨rfl, hbw2⟩
end Go.Proofs.Ytgmkmlfppblpfaa

/- The walk of the statement CommitHides. -/
import Derived.Test.YtgmkmlfppblpfaaComHB
namespace Go.Proofs.Ytgmkmlfppblpfaa
open Go.RowKit
set_option linter.unusedVariables false
set_option linter.unusedSimpArgs false
set_option maxHeartbeats 3200000 in
theorem WCommitHides (P : Int) (Q : Int) (G : Int) (H : Int) (m : Int) (r : Int) (n : Int) (l : Int) (z : Int) (w : World) (w0x : (Lit.int .i64 P).wf = true) (w0y : (Lit.int .i64 Q).wf = true) (w0z : (Lit.int .i64 G).wf = true) (w0u : (Lit.int .i64 H).wf = true) (w1 : (Lit.int .i64 m).wf = true) (w2 : (Lit.int .i64 r).wf = true) (w3 : (Lit.int .i64 n).wf = true) (w4 : (Lit.int .i64 l).wf = true) (w5 : (Lit.int .i64 z).wf = true) :
    Calls Try.prog 7 #[.agg #[.int .i64 P, .int .i64 Q, .int .i64 G, .int .i64 H], .int .i64 m, .int .i64 r, .int .i64 n, .int .i64 l, .int .i64 z] w fun e w' => e = .returned (.bool true) ∧ Below w.heap.size w w' := by
  clear w0x w0y w0z w0u w1 w2 w3 w4 w5
  by_cases h1 : grpE P Q G H = 0 ∧ (0 ≤ m ∧ m < Q) ∧ 0 ≤ r ∧ r < Q
  · have H1 := Lib.hid h1
    have HPW := Lib.hid (pows2.2 h1)
    have ⟨⟨g1, g2, g3, g4, g5, _⟩, _⟩ := grpE_zero h1.1
    have hmem := com_pos (G := G) (H := H) h1.1 h1.2.1.1 h1.2.2.1
    by_cases h2 : grpE P Q G H = 0 ∧ (0 ≤ n ∧ n < Q) ∧ 0 ≤ l ∧ l < Q
    · have H2 := Lib.hid h2
      have HPN := Lib.hid (pows2.2 h2)
      by_cases hH : pw G l P = H
      · have hex := oth_ex h1.1 h1.2.1.1 h1.2.2.1 h2.2.1 h2.2.2 hH
        have hcr : ∀ o, pw H o P = lft P Q G (com P G H m r) n → 0 ≤ o ∧ o < Q → com P G H n o = com P G H m r := fun o ho _ => oth_com h1.1 ⟨(memB_iff.1 hmem).1, (memB_iff.1 hmem).2.1⟩ h2.2.1 ho
        have hin : ∀ o o', 0 ≤ o ∧ o < Q → 0 ≤ o' ∧ o' < Q → com P G H n o = com P G H n o' → o = o' := fun o o' a b e => com_inj h1.1 h2.2.1.1 a b e
        have HMN : Hid (∀ o, 0 ≤ o ∧ o < Q → com P G H n o = com P G H m r → n = m → o = r) := Lib.hid fun o ho e e' => hin o r ho h1.2.2 (by rw [e, e'])
        obtain ⟨c, hc⟩ : ∃ c, com P G H m r = c := ⟨_, rfl⟩
        rw [hc] at hex hcr hmem HMN
        have HC := Lib.hid hc
        have HEX := Lib.hid hex
        have HCR := Lib.hid hcr
        have HIN := Lib.hid hin
        have HME := Lib.hid hmem
        have HH := Lib.hid hH
        obtain ⟨l1, l2⟩ := h2.2.2
        clear h1 hc hex hcr hin hmem
        go_enter Try.func7, Try.ntmps7
        go_wp2_with fail
        refine (commit_Commit P Q G H m r _ H1.out.1 H1.out.2.1 H1.out.2.2).mono ?_
        rintro e w1 ⟨rfl, hb1⟩
        rw [HC.out]
        have z1 := hb1.size
        simp at z1
        have k0 := kept hb1 (b := w.heap.size) (o := 0) (v := .int .i64 P) (by simp [go_sem]) (by simp [go_sem] <;> omega)
        have k1 := kept hb1 (b := w.heap.size) (o := 1) (v := .int .i64 Q) (by simp [go_sem]) (by simp [go_sem] <;> omega)
        have k2 := kept hb1 (b := w.heap.size) (o := 2) (v := .int .i64 G) (by simp [go_sem]) (by simp [go_sem] <;> omega)
        have k3 := kept hb1 (b := w.heap.size) (o := 3) (v := .int .i64 H) (by simp [go_sem]) (by simp [go_sem] <;> omega)
        go_wp2_with fail
        refine (keep_powers P Q G H _ 2 [m, r] _ ?r1 (by simp)).mono ?_
        case r1 => exact RowI.two (by simp [go_sem]) (by simp [go_sem]) (by simp [go_sem])
        rintro e w2 ⟨rfl, hb2⟩
        rw [HPW.out]
        have z2 := hb2.size
        simp at z2
        replace hb2 := below_two ((Below.refl _ w1).alloc (Nat.le_refl _) _) hb2
        replace k0 := kept hb2 k0 (by omega)
        replace k1 := kept hb2 k1 (by omega)
        replace k2 := kept hb2 k2 (by omega)
        replace k3 := kept hb2 k3 (by omega)
        have lt2 : w.heap.size < w2.heap.size := by omega
        obtain ⟨o0, o1, o2, o3⟩ := HEX.out
        go_wp2_with fail
        refine (commit_Other P Q G H c n l o0 _ H1.out.1 HME.out H2.out.2.1 H2.out.2.2 HH.out ⟨o1, o2, o3⟩).mono ?_
        rintro e w3 ⟨⟨o, ⟨q1, q2, q3⟩, rfl⟩, hb3⟩
        have HQ := Lib.hid (HCR.out o q3 ⟨q1, q2⟩)
        clear o1 o2 o3 q3
        have z3 := hb3.size
        replace k0 := kept hb3 k0 (by omega)
        replace k1 := kept hb3 k1 (by omega)
        replace k2 := kept hb3 k2 (by omega)
        replace k3 := kept hb3 k3 (by omega)
        have lt3 : w.heap.size < w3.heap.size := by omega
        have hn : (H != H) = false := by simp
        clear h2 hH
        go_wp2_with fail
        go_region_held3 (fun w' => w'.cell? ⟨w.heap.size, 0, none⟩ = some (.int .i64 P) ∧ w'.cell? ⟨w.heap.size, 1, none⟩ = some (.int .i64 Q) ∧ w'.cell? ⟨w.heap.size, 2, none⟩ = some (.int .i64 G) ∧ w'.cell? ⟨w.heap.size, 3, none⟩ = some (.int .i64 H))
          (first | go_keep | exact ⟨kept hb4 (by simpa [go_sem] using k0) (by simp; omega), kept hb4 (by simpa [go_sem] using k1) (by simp; omega), kept hb4 (by simpa [go_sem] using k2) (by simp; omega), kept hb4 (by simpa [go_sem] using k3) (by simp; omega)⟩ | exact ⟨kept (below_two (((Below.refl _ w3).alloc (Nat.le_refl _) _).drew) hb4) k0 (by omega), kept (below_two (((Below.refl _ w3).alloc (Nat.le_refl _) _).drew) hb4) k1 (by omega), kept (below_two (((Below.refl _ w3).alloc (Nat.le_refl _) _).drew) hb4) k2 (by omega), kept (below_two (((Below.refl _ w3).alloc (Nat.le_refl _) _).drew) hb4) k3 (by omega)⟩)
          (first | (go_at_call 15; refine (keep_powers P Q G H _ 2 [n, l] _ ?r1 (by simp)).mono ?_; (case r1 => exact RowI.two (by simp [go_sem]) (by simp [go_sem]) (by simp [go_sem])); rintro e w4 ⟨rfl, hb4⟩; rw [HPN.out]) | (go_at_call 23; refine (ref_Pow G l P _ (by omega) (by omega) (by omega) g2).mono ?_; rintro e w' ⟨rfl, rfl⟩; rw [HH.out]))
        replace hb4 := below_two (((Below.refl _ w3).alloc (Nat.le_refl _) _).drew) hb4
        have z4 := hb4.size
        replace k0 := kept hb4 k0 (by omega)
        replace k1 := kept hb4 k1 (by omega)
        replace k2 := kept hb4 k2 (by omega)
        replace k3 := kept hb4 k3 (by omega)
        have lt4 : w.heap.size < w4.heap.size := by omega
        have hbw := below_two (below_two (below_two (below_two ((Below.refl _ _).alloc (Nat.le_refl _) _) hb1) hb2) hb3) hb4
        clear hb1 hb2 hb3 hb4
        go_wp2_with fail
        refine (commit_Commit P Q G H n o _ H1.out.1 H2.out.2.1 ⟨q1, q2⟩).mono ?_
        rintro e w6 ⟨rfl, hb6⟩
        rw [HQ.out]
        have z6 := hb6.size
        replace k0 := kept hb6 k0 (by omega)
        replace k1 := kept hb6 k1 (by omega)
        replace k2 := kept hb6 k2 (by omega)
        replace k3 := kept hb6 k3 (by omega)
        have hcase : (n == m) = false ∨ ((n == m) = true ∧ (o == r) = true) := by
          by_cases e : n = m
          · exact .inr ⟨by simpa using e, by simpa using HMN.out o ⟨q1, q2⟩ HQ.out e⟩
          · exact .inl (by simpa using e)
        by_cases hz : 0 ≤ z ∧ z < Q
        · have HZ := Lib.hid hz
          obtain ⟨x, hx⟩ : ∃ x, com P G H n z = x := ⟨_, rfl⟩
          have hxz : (x == c) = (z == o) := by
            by_cases e : z = o
            · subst e; rw [← hx, HQ.out]; simp
            · have : ¬ x = c := fun h => e (HIN.out z o hz ⟨q1, q2⟩ (by rw [hx, HQ.out, h]))
              rw [show (x == c) = false by simpa using this, show (z == o) = false by simpa using e]
          have HX := Lib.hid hx
          clear hz hx
          rcases hcase with e1 | ⟨e1, e2⟩
          all_goals
            go_wp2_with fail
            refine (commit_Commit P Q G H n z _ H1.out.1 H2.out.2.1 HZ.out).mono ?_
            rintro e w7 ⟨rfl, hb7⟩
            rw [HX.out]
            go_wp2
            go_ret
            exact ⟨ret_bool (by simp [hxz]), below_two (below_two hbw hb6) hb7⟩
        · have HZ : Hid (¬ (grpE P Q G H = 0 ∧ (0 ≤ n ∧ n < Q) ∧ 0 ≤ z ∧ z < Q)) := Lib.hid fun h => hz h.2.2
          clear hz
          rcases hcase with e1 | ⟨e1, e2⟩
          all_goals
            go_wp2_with fail
            refine (commit_Commit_no P Q G H n z _ HZ.out).mono ?_
            rintro e w7 ⟨⟨t, ht, rfl⟩, hb7⟩
            have hta : (t == 0) = false := by simpa using ht
            have htb : (t != 0) = true := by simpa using ht
            go_wp2
            go_ret
            exact ⟨ret_bool (by simp), below_two (below_two hbw hb6) hb7⟩
      · have HH := Lib.hid hH
        have HME := Lib.hid hmem
        obtain ⟨l1, l2⟩ := h2.2.2
        obtain ⟨x, hx⟩ : ∃ x, pw G l P = x := ⟨_, rfl⟩
        rw [hx] at hH
        have HX := Lib.hid hx
        have n1 : (x == H) = false := by simpa using hH
        have n2 : (x != H) = true := by simpa using hH
        clear h1 h2 hmem hx hH
        go_enter Try.func7, Try.ntmps7
        go_wp2_with fail
        refine (commit_Commit P Q G H m r _ H1.out.1 H1.out.2.1 H1.out.2.2).mono ?_
        rintro e w1 ⟨rfl, hb1⟩
        have z1 := hb1.size
        simp at z1
        have k0 := kept hb1 (b := w.heap.size) (o := 0) (v := .int .i64 P) (by simp [go_sem]) (by simp [go_sem] <;> omega)
        have k1 := kept hb1 (b := w.heap.size) (o := 1) (v := .int .i64 Q) (by simp [go_sem]) (by simp [go_sem] <;> omega)
        have k2 := kept hb1 (b := w.heap.size) (o := 2) (v := .int .i64 G) (by simp [go_sem]) (by simp [go_sem] <;> omega)
        have k3 := kept hb1 (b := w.heap.size) (o := 3) (v := .int .i64 H) (by simp [go_sem]) (by simp [go_sem] <;> omega)
        go_wp2_with fail
        refine (keep_powers P Q G H _ 2 [m, r] _ ?r1 (by simp)).mono ?_
        case r1 => exact RowI.two (by simp [go_sem]) (by simp [go_sem]) (by simp [go_sem])
        rintro e w2 ⟨rfl, hb2⟩
        rw [HPW.out]
        have z2 := hb2.size
        simp at z2
        replace hb2 := below_two ((Below.refl _ w1).alloc (Nat.le_refl _) _) hb2
        replace k0 := kept hb2 k0 (by omega)
        replace k1 := kept hb2 k1 (by omega)
        replace k2 := kept hb2 k2 (by omega)
        replace k3 := kept hb2 k3 (by omega)
        have lt2 : w.heap.size < w2.heap.size := by omega
        go_wp2_with fail
        refine (Other_no3 P Q G H (com P G H m r) n l _ H2.out.1 H2.out.2.1 H2.out.2.2 HME.out HH.out).mono ?_
        rintro e w3 ⟨⟨t, ht, rfl⟩, hb3⟩
        have hta : (t == 0) = false := by simpa using ht
        have htb : (t != 0) = true := by simpa using ht
        have z3 := hb3.size
        replace k0 := kept hb3 k0 (by omega)
        replace k1 := kept hb3 k1 (by omega)
        replace k2 := kept hb3 k2 (by omega)
        replace k3 := kept hb3 k3 (by omega)
        have lt3 : w.heap.size < w3.heap.size := by omega
        go_wp2_with fail
        go_region_held3 (fun w' => w'.cell? ⟨w.heap.size, 0, none⟩ = some (.int .i64 P) ∧ w'.cell? ⟨w.heap.size, 1, none⟩ = some (.int .i64 Q) ∧ w'.cell? ⟨w.heap.size, 2, none⟩ = some (.int .i64 G) ∧ w'.cell? ⟨w.heap.size, 3, none⟩ = some (.int .i64 H))
          (first | go_keep | exact ⟨kept hb4 (by simpa [go_sem] using k0) (by simp; omega), kept hb4 (by simpa [go_sem] using k1) (by simp; omega), kept hb4 (by simpa [go_sem] using k2) (by simp; omega), kept hb4 (by simpa [go_sem] using k3) (by simp; omega)⟩ | exact ⟨kept (below_two (((Below.refl _ w3).alloc (Nat.le_refl _) _).drew) hb4) k0 (by omega), kept (below_two (((Below.refl _ w3).alloc (Nat.le_refl _) _).drew) hb4) k1 (by omega), kept (below_two (((Below.refl _ w3).alloc (Nat.le_refl _) _).drew) hb4) k2 (by omega), kept (below_two (((Below.refl _ w3).alloc (Nat.le_refl _) _).drew) hb4) k3 (by omega)⟩)
          (first | (go_at_call 15; refine (keep_powers P Q G H _ 2 [n, l] _ ?r1 (by simp)).mono ?_; (case r1 => exact RowI.two (by simp [go_sem]) (by simp [go_sem]) (by simp [go_sem])); rintro e w4 ⟨rfl, hb4⟩; rw [HPN.out]) | (go_at_call 23; refine (ref_Pow G l P _ (by omega) (by omega) (by omega) g2).mono ?_; rintro e w' ⟨rfl, rfl⟩; rw [HX.out]))
        replace hb4 := below_two (((Below.refl _ w3).alloc (Nat.le_refl _) _).drew) hb4
        have z4 := hb4.size
        replace k0 := kept hb4 k0 (by omega)
        replace k1 := kept hb4 k1 (by omega)
        replace k2 := kept hb4 k2 (by omega)
        replace k3 := kept hb4 k3 (by omega)
        have lt4 : w.heap.size < w4.heap.size := by omega
        go_wp2
        go_ret
        exact ⟨ret_bool (by simp), below_two (below_two (below_two (below_two ((Below.refl _ _).alloc (Nat.le_refl _) _) hb1) hb2) hb3) hb4⟩
    · exact hides_bad P Q G H m r n l z w h1 h2
  · have HPW := Lib.hid (pows_not (b := powsB Q [m, r] && (grpE P Q G H == 0)) fun e => h1 (pows2.1 e))
    have H1 := Lib.hid h1
    clear h1
    go_enter Try.func7, Try.ntmps7
    go_wp2_with fail
    refine (commit_Commit_no P Q G H m r _ H1.out).mono ?_
    rintro e w1 ⟨⟨t, ht, rfl⟩, hb1⟩
    have hta : (t == 0) = false := by simpa using ht
    have htb : (t != 0) = true := by simpa using ht
    have z1 := hb1.size
    simp at z1
    have k0 := kept hb1 (b := w.heap.size) (o := 0) (v := .int .i64 P) (by simp [go_sem]) (by simp [go_sem] <;> omega)
    have k1 := kept hb1 (b := w.heap.size) (o := 1) (v := .int .i64 Q) (by simp [go_sem]) (by simp [go_sem] <;> omega)
    have k2 := kept hb1 (b := w.heap.size) (o := 2) (v := .int .i64 G) (by simp [go_sem]) (by simp [go_sem] <;> omega)
    have k3 := kept hb1 (b := w.heap.size) (o := 3) (v := .int .i64 H) (by simp [go_sem]) (by simp [go_sem] <;> omega)
    go_wp2_with fail
    refine (keep_powers P Q G H _ 2 [m, r] _ ?r1 (by simp)).mono ?_
    case r1 => exact RowI.two (by simp [go_sem]) (by simp [go_sem]) (by simp [go_sem])
    rintro e w2 ⟨rfl, hb2⟩
    rw [HPW.out]
    have z2 := hb2.size
    simp at z2
    replace hb2 := below_two ((Below.refl _ w1).alloc (Nat.le_refl _) _) hb2
    replace k0 := kept hb2 k0 (by omega)
    replace k1 := kept hb2 k1 (by omega)
    replace k2 := kept hb2 k2 (by omega)
    replace k3 := kept hb2 k3 (by omega)
    have lt2 : w.heap.size < w2.heap.size := by omega
    go_wp2
    go_ret
    exact ⟨ret_bool (by simp), below_two (below_two ((Below.refl _ _).alloc (Nat.le_refl _) _) hb1) hb2⟩
end Go.Proofs.Ytgmkmlfppblpfaa

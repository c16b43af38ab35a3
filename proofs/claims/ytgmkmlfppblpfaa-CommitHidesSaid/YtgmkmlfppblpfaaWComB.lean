/- The contract of commit.Break and the walk of the statement CommitBinds. -/
import Derived.Test.YtgmkmlfppblpfaaCom2
namespace Go.Proofs.Ytgmkmlfppblpfaa
open Go.RowKit
set_option linter.unusedVariables false
set_option linter.unusedSimpArgs false
set_option maxHeartbeats 1600000 in
theorem commit_Break (P Q G H m r n s : Int) (w : World) (h : BrkOk P Q G H m r n s) :
    Calls Try.prog 24 #[.agg #[.int .i64 P, .int .i64 Q, .int .i64 G, .int .i64 H], .int .i64 m, .int .i64 r, .int .i64 n, .int .i64 s] w fun e w' => (∃ b : Int, (0 ≤ b ∧ b < Q ∧ pw G b P = H) ∧ e = .returned (.tuple #[.int .i64 b, .int .i64 0])) ∧ Below w.heap.size w w' := by
  have HB := Lib.hid h
  have hk := (brk_pw h).1
  obtain ⟨h1, h2, hc, hne⟩ := h
  have H1 := Lib.hid h1
  have H2 := Lib.hid h2
  have ⟨⟨g1, g2, g3, g4, g5, _⟩, hp, hq, _, hG, hH⟩ := grpE_zero h1.1
  obtain ⟨_, ⟨m1, m2⟩, r1, r2⟩ := h1
  obtain ⟨_, ⟨n1, n2⟩, s1, s2⟩ := h2
  have HO := Lib.hid (fun w => commit_over P Q G H (m - n) (s - r) w hq g3 (by omega) (by omega) (by omega) (by omega) (by omega) hk)
  have f1 : IntKind.i64.wrap (m - n) = m - n := IntWalk.i64_in _ (by omega)
  have f2 : IntKind.i64.wrap (s - r) = s - r := IntWalk.i64_in _ (by omega)
  obtain ⟨c, hc'⟩ : ∃ c, com P G H m r = c := ⟨_, rfl⟩
  rw [hc'] at hc
  have HC := Lib.hid hc'
  have HD := Lib.hid hc.symm
  have hcase : (m == n) = false ∨ ((m == n) = true ∧ (r == s) = false) := by
    by_cases e : m = n
    · by_cases e' : r = s
      · exact absurd ⟨e, e'⟩ hne
      · exact .inr ⟨by simpa using e, by simpa using e'⟩
    · exact .inl (by simpa using e)
  clear hk hc hc' hne hp hq hG hH
  rcases hcase with e1 | ⟨e1, e2⟩
  · go_enter Try.func24, Try.ntmps24
    go_wp2_with fail
    refine (commit_Commit P Q G H m r _ H1.out.1 H1.out.2.1 H1.out.2.2).mono ?_
    rintro e w1 ⟨rfl, hb1⟩
    rw [HC.out]
    have z1 := hb1.size
    simp at z1
    have k0 := kept hb1 (b := w.heap.size) (o := 0) (v := .int .i64 P) (by simp [go_sem]) (by simp [go_sem] <;> omega)
    have k1 := kept hb1 (b := w.heap.size) (o := 1) (v := .int .i64 Q) (by simp [go_sem]) (by simp [go_sem] <;> omega)
    have k2 := kept hb1 (b := w.heap.size) (o := 2) (v := .int .i64 G) (by simp [go_sem]) (by simp [go_sem] <;> omega)
    have k3 := kept hb1 (b := w.heap.size) (o := 3) (v := .int .i64 H) (by simp [go_sem]) (by simp [go_sem] <;> omega)
    go_wp2_with fail
    refine (commit_Commit P Q G H n s _ H2.out.1 H2.out.2.1 H2.out.2.2).mono ?_
    rintro e w2 ⟨rfl, hb2⟩
    rw [HD.out]
    have z2 := hb2.size
    replace k0 := kept hb2 k0 (by omega)
    replace k1 := kept hb2 k1 (by omega)
    replace k2 := kept hb2 k2 (by omega)
    replace k3 := kept hb2 k3 (by omega)
    have lt2 : w.heap.size < w2.heap.size := by omega
    go_wp2_with fail
    refine (HO.out _).mono ?_
    rintro e w3 ⟨⟨j, j1, j2, j3, rfl⟩, hb3⟩
    have HL := Lib.hid (brk_log HB.out j1 j3)
    clear j3
    have c1 := Int.emod_nonneg ((m - n) % Q * j) (show Q ≠ 0 by omega)
    have c2 := Int.emod_lt_of_pos ((m - n) % Q * j) (show 0 < Q by omega)
    go_wp2
    go_ret2
    exact ⟨⟨_, ⟨c1, c2, HL.out⟩, rfl⟩, below_two (below_two (below_two ((Below.refl _ _).alloc (Nat.le_refl _) _) hb1) hb2) hb3⟩
  · go_enter Try.func24, Try.ntmps24
    go_wp2_with fail
    refine (commit_Commit P Q G H m r _ H1.out.1 H1.out.2.1 H1.out.2.2).mono ?_
    rintro e w1 ⟨rfl, hb1⟩
    rw [HC.out]
    have z1 := hb1.size
    simp at z1
    have k0 := kept hb1 (b := w.heap.size) (o := 0) (v := .int .i64 P) (by simp [go_sem]) (by simp [go_sem] <;> omega)
    have k1 := kept hb1 (b := w.heap.size) (o := 1) (v := .int .i64 Q) (by simp [go_sem]) (by simp [go_sem] <;> omega)
    have k2 := kept hb1 (b := w.heap.size) (o := 2) (v := .int .i64 G) (by simp [go_sem]) (by simp [go_sem] <;> omega)
    have k3 := kept hb1 (b := w.heap.size) (o := 3) (v := .int .i64 H) (by simp [go_sem]) (by simp [go_sem] <;> omega)
    go_wp2_with fail
    refine (commit_Commit P Q G H n s _ H2.out.1 H2.out.2.1 H2.out.2.2).mono ?_
    rintro e w2 ⟨rfl, hb2⟩
    rw [HD.out]
    have z2 := hb2.size
    replace k0 := kept hb2 k0 (by omega)
    replace k1 := kept hb2 k1 (by omega)
    replace k2 := kept hb2 k2 (by omega)
    replace k3 := kept hb2 k3 (by omega)
    have lt2 : w.heap.size < w2.heap.size := by omega
    go_wp2_with fail
    refine (HO.out _).mono ?_
    rintro e w3 ⟨⟨j, j1, j2, j3, rfl⟩, hb3⟩
    have HL := Lib.hid (brk_log HB.out j1 j3)
    clear j3
    have c1 := Int.emod_nonneg ((m - n) % Q * j) (show Q ≠ 0 by omega)
    have c2 := Int.emod_lt_of_pos ((m - n) % Q * j) (show 0 < Q by omega)
    go_wp2
    go_ret2
    exact ⟨⟨_, ⟨c1, c2, HL.out⟩, rfl⟩, below_two (below_two (below_two ((Below.refl _ _).alloc (Nat.le_refl _) _) hb1) hb2) hb3⟩
set_option maxHeartbeats 1600000 in
theorem commit_Break_no (P Q G H m r n s : Int) (w : World) (h : ¬ BrkOk P Q G H m r n s) :
    Calls Try.prog 24 #[.agg #[.int .i64 P, .int .i64 Q, .int .i64 G, .int .i64 H], .int .i64 m, .int .i64 r, .int .i64 n, .int .i64 s] w fun e w' => (∃ t : Int, ¬ t = 0 ∧ e = .returned (.tuple #[.int .i64 0, .int .i64 t])) ∧ Below w.heap.size w w' := by
  by_cases h1 : grpE P Q G H = 0 ∧ (0 ≤ m ∧ m < Q) ∧ 0 ≤ r ∧ r < Q
  · have H1 := Lib.hid h1
    by_cases h2 : grpE P Q G H = 0 ∧ (0 ≤ n ∧ n < Q) ∧ 0 ≤ s ∧ s < Q
    · have H2 := Lib.hid h2
      obtain ⟨c, hc⟩ : ∃ c, com P G H m r = c := ⟨_, rfl⟩
      obtain ⟨d, hd⟩ : ∃ c, com P G H n s = c := ⟨_, rfl⟩
      have HC := Lib.hid hc
      have HD := Lib.hid hd
      by_cases hs : m = n ∧ r = s
      · have e1 : (m == n) = true := by simpa using hs.1
        have e2 : (r == s) = true := by simpa using hs.2
        clear h h1 h2 hc hd hs
        go_enter Try.func24, Try.ntmps24
        go_wp2_with fail
        refine (commit_Commit P Q G H m r _ H1.out.1 H1.out.2.1 H1.out.2.2).mono ?_
        rintro e w1 ⟨rfl, hb1⟩
        rw [HC.out]
        have z1 := hb1.size
        simp at z1
        have k0 := kept hb1 (b := w.heap.size) (o := 0) (v := .int .i64 P) (by simp [go_sem]) (by simp [go_sem] <;> omega)
        have k1 := kept hb1 (b := w.heap.size) (o := 1) (v := .int .i64 Q) (by simp [go_sem]) (by simp [go_sem] <;> omega)
        have k2 := kept hb1 (b := w.heap.size) (o := 2) (v := .int .i64 G) (by simp [go_sem]) (by simp [go_sem] <;> omega)
        have k3 := kept hb1 (b := w.heap.size) (o := 3) (v := .int .i64 H) (by simp [go_sem]) (by simp [go_sem] <;> omega)
        go_wp2_with fail
        refine (commit_Commit P Q G H n s _ H2.out.1 H2.out.2.1 H2.out.2.2).mono ?_
        rintro e w2 ⟨rfl, hb2⟩
        rw [HD.out]
        have z2 := hb2.size
        replace k0 := kept hb2 k0 (by omega)
        replace k1 := kept hb2 k1 (by omega)
        replace k2 := kept hb2 k2 (by omega)
        replace k3 := kept hb2 k3 (by omega)
        have lt2 : w.heap.size < w2.heap.size := by omega
        go_wp2
        go_ret2
        exact ⟨⟨4, by decide, rfl⟩, below_two (below_two ((Below.refl _ _).alloc (Nat.le_refl _) _) hb1) hb2⟩
      · have hcd : ¬ c = d := fun e => h ⟨h1, h2, by rw [hc, hd, e], hs⟩
        have e3 : (c == d) = false := by simpa using hcd
        have e4 : (c != d) = true := by simpa using hcd
        by_cases e : m = n
        · have e' : ¬ r = s := fun e' => hs ⟨e, e'⟩
          have e1 : (m == n) = true := by simpa using e
          have e2 : (r == s) = false := by simpa using e'
          clear h h1 h2 hc hd hs e e'
          go_enter Try.func24, Try.ntmps24
          go_wp2_with fail
          refine (commit_Commit P Q G H m r _ H1.out.1 H1.out.2.1 H1.out.2.2).mono ?_
          rintro e w1 ⟨rfl, hb1⟩
          rw [HC.out]
          have z1 := hb1.size
          simp at z1
          have k0 := kept hb1 (b := w.heap.size) (o := 0) (v := .int .i64 P) (by simp [go_sem]) (by simp [go_sem] <;> omega)
          have k1 := kept hb1 (b := w.heap.size) (o := 1) (v := .int .i64 Q) (by simp [go_sem]) (by simp [go_sem] <;> omega)
          have k2 := kept hb1 (b := w.heap.size) (o := 2) (v := .int .i64 G) (by simp [go_sem]) (by simp [go_sem] <;> omega)
          have k3 := kept hb1 (b := w.heap.size) (o := 3) (v := .int .i64 H) (by simp [go_sem]) (by simp [go_sem] <;> omega)
          go_wp2_with fail
          refine (commit_Commit P Q G H n s _ H2.out.1 H2.out.2.1 H2.out.2.2).mono ?_
          rintro e w2 ⟨rfl, hb2⟩
          rw [HD.out]
          have z2 := hb2.size
          replace k0 := kept hb2 k0 (by omega)
          replace k1 := kept hb2 k1 (by omega)
          replace k2 := kept hb2 k2 (by omega)
          replace k3 := kept hb2 k3 (by omega)
          have lt2 : w.heap.size < w2.heap.size := by omega
          go_wp2
          go_ret2
          exact ⟨⟨4, by decide, rfl⟩, below_two (below_two ((Below.refl _ _).alloc (Nat.le_refl _) _) hb1) hb2⟩
        · have e1 : (m == n) = false := by simpa using e
          clear h h1 h2 hc hd hs e
          go_enter Try.func24, Try.ntmps24
          go_wp2_with fail
          refine (commit_Commit P Q G H m r _ H1.out.1 H1.out.2.1 H1.out.2.2).mono ?_
          rintro e w1 ⟨rfl, hb1⟩
          rw [HC.out]
          have z1 := hb1.size
          simp at z1
          have k0 := kept hb1 (b := w.heap.size) (o := 0) (v := .int .i64 P) (by simp [go_sem]) (by simp [go_sem] <;> omega)
          have k1 := kept hb1 (b := w.heap.size) (o := 1) (v := .int .i64 Q) (by simp [go_sem]) (by simp [go_sem] <;> omega)
          have k2 := kept hb1 (b := w.heap.size) (o := 2) (v := .int .i64 G) (by simp [go_sem]) (by simp [go_sem] <;> omega)
          have k3 := kept hb1 (b := w.heap.size) (o := 3) (v := .int .i64 H) (by simp [go_sem]) (by simp [go_sem] <;> omega)
          go_wp2_with fail
          refine (commit_Commit P Q G H n s _ H2.out.1 H2.out.2.1 H2.out.2.2).mono ?_
          rintro e w2 ⟨rfl, hb2⟩
          rw [HD.out]
          have z2 := hb2.size
          replace k0 := kept hb2 k0 (by omega)
          replace k1 := kept hb2 k1 (by omega)
          replace k2 := kept hb2 k2 (by omega)
          replace k3 := kept hb2 k3 (by omega)
          have lt2 : w.heap.size < w2.heap.size := by omega
          go_wp2
          go_ret2
          exact ⟨⟨4, by decide, rfl⟩, below_two (below_two ((Below.refl _ _).alloc (Nat.le_refl _) _) hb1) hb2⟩
    · have H2 := Lib.hid h2
      clear h h1 h2
      go_enter Try.func24, Try.ntmps24
      go_wp2_with fail
      refine (commit_Commit P Q G H m r _ H1.out.1 H1.out.2.1 H1.out.2.2).mono ?_
      rintro e w1 ⟨rfl, hb1⟩
      have z1 := hb1.size
      simp at z1
      have k0 := kept hb1 (b := w.heap.size) (o := 0) (v := .int .i64 P) (by simp [go_sem]) (by simp [go_sem] <;> omega)
      have k1 := kept hb1 (b := w.heap.size) (o := 1) (v := .int .i64 Q) (by simp [go_sem]) (by simp [go_sem] <;> omega)
      have k2 := kept hb1 (b := w.heap.size) (o := 2) (v := .int .i64 G) (by simp [go_sem]) (by simp [go_sem] <;> omega)
      have k3 := kept hb1 (b := w.heap.size) (o := 3) (v := .int .i64 H) (by simp [go_sem]) (by simp [go_sem] <;> omega)
      go_wp2_with fail
      refine (commit_Commit_no P Q G H n s _ H2.out).mono ?_
      rintro e w2 ⟨⟨t, ht, rfl⟩, hb2⟩
      have hta : (t == 0) = false := by simpa using ht
      have htb : (t != 0) = true := by simpa using ht
      have z2 := hb2.size
      replace k0 := kept hb2 k0 (by omega)
      replace k1 := kept hb2 k1 (by omega)
      replace k2 := kept hb2 k2 (by omega)
      replace k3 := kept hb2 k3 (by omega)
      have lt2 : w.heap.size < w2.heap.size := by omega
      go_wp2
      go_ret2
      exact ⟨⟨t, ht, rfl⟩, below_two (below_two ((Below.refl _ _).alloc (Nat.le_refl _) _) hb1) hb2⟩
  · have H1 := Lib.hid h1
    clear h h1
    go_enter Try.func24, Try.ntmps24
    go_wp2_with fail
    refine (commit_Commit_no P Q G H m r _ H1.out).mono ?_
    rintro e w1 ⟨⟨t, ht, rfl⟩, hb1⟩
    have hta : (t == 0) = false := by simpa using ht
    have htb : (t != 0) = true := by simpa using ht
    have z1 := hb1.size
    simp at z1
    have k0 := kept hb1 (b := w.heap.size) (o := 0) (v := .int .i64 P) (by simp [go_sem]) (by simp [go_sem] <;> omega)
    have k1 := kept hb1 (b := w.heap.size) (o := 1) (v := .int .i64 Q) (by simp [go_sem]) (by simp [go_sem] <;> omega)
    have k2 := kept hb1 (b := w.heap.size) (o := 2) (v := .int .i64 G) (by simp [go_sem]) (by simp [go_sem] <;> omega)
    have k3 := kept hb1 (b := w.heap.size) (o := 3) (v := .int .i64 H) (by simp [go_sem]) (by simp [go_sem] <;> omega)
    go_wp2
    go_ret2
    exact ⟨⟨t, ht, rfl⟩, below_two ((Below.refl _ _).alloc (Nat.le_refl _) _) hb1⟩
set_option maxHeartbeats 3200000 in
theorem WCommitBinds (P : Int) (Q : Int) (G : Int) (H : Int) (m : Int) (r : Int) (n : Int) (s : Int) (w : World) (w0x : (Lit.int .i64 P).wf = true) (w0y : (Lit.int .i64 Q).wf = true) (w0z : (Lit.int .i64 G).wf = true) (w0u : (Lit.int .i64 H).wf = true) (w1 : (Lit.int .i64 m).wf = true) (w2 : (Lit.int .i64 r).wf = true) (w3 : (Lit.int .i64 n).wf = true) (w4 : (Lit.int .i64 s).wf = true) :
    Calls Try.prog 8 #[.agg #[.int .i64 P, .int .i64 Q, .int .i64 G, .int .i64 H], .int .i64 m, .int .i64 r, .int .i64 n, .int .i64 s] w fun e w' => e = .returned (.bool true) ∧ Below w.heap.size w w' := by
  clear w0x w0y w0z w0u w1 w2 w3 w4
  by_cases h1 : grpE P Q G H = 0 ∧ (0 ≤ m ∧ m < Q) ∧ 0 ≤ r ∧ r < Q
  · have H1 := Lib.hid h1
    by_cases h2 : grpE P Q G H = 0 ∧ (0 ≤ n ∧ n < Q) ∧ 0 ≤ s ∧ s < Q
    · have H2 := Lib.hid h2
      have HPW := Lib.hid (pows5 h1.1 h1.2.1 h1.2.2 h2.2.1 h2.2.2)
      have ⟨⟨g1, g2, g3, g4, g5, _⟩, _⟩ := grpE_zero h1.1
      have c3 := (memB_iff.1 (com_pos (G := G) (H := H) h1.1 h1.2.1.1 h1.2.2.1)).1
      obtain ⟨c, hc⟩ : ∃ c, com P G H m r = c := ⟨_, rfl⟩
      obtain ⟨d, hd⟩ : ∃ c, com P G H n s = c := ⟨_, rfl⟩
      rw [hc] at c3
      have HC := Lib.hid hc
      have HD := Lib.hid hd
      have e0 : decide (c < 1) = false := decide_eq_false (by omega)
      by_cases hB : BrkOk P Q G H m r n s
      · have HB := Lib.hid hB
        obtain rfl : c = d := by rw [← hc, ← hd]; exact hB.2.2.1
        have hcase : (m == n) = false ∨ ((m == n) = true ∧ (r == s) = false) := by
          by_cases e : m = n
          · by_cases e' : r = s
            · exact absurd ⟨e, e'⟩ hB.2.2.2
            · exact .inr ⟨by simpa using e, by simpa using e'⟩
          · exact .inl (by simpa using e)
        clear h1 h2 hc hd hB
        rcases hcase with e1 | ⟨e1, e2⟩
        · go_enter Try.func8, Try.ntmps8
          go_wp2_with fail
          refine (commit_Commit P Q G H m r _ H1.out.1 H1.out.2.1 H1.out.2.2).mono ?_
          rintro e w1 ⟨rfl, hb1⟩
          rw [HC.out]
          have z1 := hb1.size
          simp at z1
          have k0 := kept hb1 (b := w.heap.size) (o := 0) (v := .int .i64 P) (by simp [go_sem]) (by simp [go_sem] <;> omega)
          have k1 := kept hb1 (b := w.heap.size) (o := 1) (v := .int .i64 Q) (by simp [go_sem]) (by simp [go_sem] <;> omega)
          have k2 := kept hb1 (b := w.heap.size) (o := 2) (v := .int .i64 G) (by simp [go_sem]) (by simp [go_sem] <;> omega)
          have k3 := kept hb1 (b := w.heap.size) (o := 3) (v := .int .i64 H) (by simp [go_sem]) (by simp [go_sem] <;> omega)
          go_wp2_with fail
          refine (commit_Commit P Q G H n s _ H2.out.1 H2.out.2.1 H2.out.2.2).mono ?_
          rintro e w2 ⟨rfl, hb2⟩
          rw [HD.out]
          have z2 := hb2.size
          replace k0 := kept hb2 k0 (by omega)
          replace k1 := kept hb2 k1 (by omega)
          replace k2 := kept hb2 k2 (by omega)
          replace k3 := kept hb2 k3 (by omega)
          have lt2 : w.heap.size < w2.heap.size := by omega
          go_wp2_with fail
          refine (commit_Break P Q G H m r n s _ HB.out).mono ?_
          rintro e w3 ⟨⟨b, ⟨b1, b2, b3⟩, rfl⟩, hb3⟩
          have HL := Lib.hid b3
          clear b3
          have z3 := hb3.size
          replace k0 := kept hb3 k0 (by omega)
          replace k1 := kept hb3 k1 (by omega)
          replace k2 := kept hb3 k2 (by omega)
          replace k3 := kept hb3 k3 (by omega)
          have lt3 : w.heap.size < w3.heap.size := by omega
          go_wp2_with fail
          refine (keep_powers P Q G H _ 4 [m, r, n, s] _ ?r1 (by simp)).mono ?_
          case r1 => exact RowI.lits _ _ _ _ rfl
          rintro e w4 ⟨rfl, hb4⟩
          rw [HPW.out]
          have z4 := hb4.size
          simp at z4
          replace hb4 := below_two ((Below.refl _ w3).alloc (Nat.le_refl _) _) hb4
          replace k0 := kept hb4 k0 (by omega)
          replace k1 := kept hb4 k1 (by omega)
          replace k2 := kept hb4 k2 (by omega)
          replace k3 := kept hb4 k3 (by omega)
          have lt4 : w.heap.size < w4.heap.size := by omega
          go_wp2_with fail
          go_quiet ((go_at_call 23; exact quiet_same (ref_Pow G b P _ (by omega) (by omega) (by omega) g2)))
          go_wp2
          go_ret
          exact ⟨ret_bool (by simp [HL.out]), below_drewN (below_two (below_two (below_two (below_two ((Below.refl _ _).alloc (Nat.le_refl _) _) hb1) hb2) hb3) hb4) _⟩
        · go_enter Try.func8, Try.ntmps8
          go_wp2_with fail
          refine (commit_Commit P Q G H m r _ H1.out.1 H1.out.2.1 H1.out.2.2).mono ?_
          rintro e w1 ⟨rfl, hb1⟩
          rw [HC.out]
          have z1 := hb1.size
          simp at z1
          have k0 := kept hb1 (b := w.heap.size) (o := 0) (v := .int .i64 P) (by simp [go_sem]) (by simp [go_sem] <;> omega)
          have k1 := kept hb1 (b := w.heap.size) (o := 1) (v := .int .i64 Q) (by simp [go_sem]) (by simp [go_sem] <;> omega)
          have k2 := kept hb1 (b := w.heap.size) (o := 2) (v := .int .i64 G) (by simp [go_sem]) (by simp [go_sem] <;> omega)
          have k3 := kept hb1 (b := w.heap.size) (o := 3) (v := .int .i64 H) (by simp [go_sem]) (by simp [go_sem] <;> omega)
          go_wp2_with fail
          refine (commit_Commit P Q G H n s _ H2.out.1 H2.out.2.1 H2.out.2.2).mono ?_
          rintro e w2 ⟨rfl, hb2⟩
          rw [HD.out]
          have z2 := hb2.size
          replace k0 := kept hb2 k0 (by omega)
          replace k1 := kept hb2 k1 (by omega)
          replace k2 := kept hb2 k2 (by omega)
          replace k3 := kept hb2 k3 (by omega)
          have lt2 : w.heap.size < w2.heap.size := by omega
          go_wp2_with fail
          refine (commit_Break P Q G H m r n s _ HB.out).mono ?_
          rintro e w3 ⟨⟨b, ⟨b1, b2, b3⟩, rfl⟩, hb3⟩
          have HL := Lib.hid b3
          clear b3
          have z3 := hb3.size
          replace k0 := kept hb3 k0 (by omega)
          replace k1 := kept hb3 k1 (by omega)
          replace k2 := kept hb3 k2 (by omega)
          replace k3 := kept hb3 k3 (by omega)
          have lt3 : w.heap.size < w3.heap.size := by omega
          go_wp2_with fail
          refine (keep_powers P Q G H _ 4 [m, r, n, s] _ ?r1 (by simp)).mono ?_
          case r1 => exact RowI.lits _ _ _ _ rfl
          rintro e w4 ⟨rfl, hb4⟩
          rw [HPW.out]
          have z4 := hb4.size
          simp at z4
          replace hb4 := below_two ((Below.refl _ w3).alloc (Nat.le_refl _) _) hb4
          replace k0 := kept hb4 k0 (by omega)
          replace k1 := kept hb4 k1 (by omega)
          replace k2 := kept hb4 k2 (by omega)
          replace k3 := kept hb4 k3 (by omega)
          have lt4 : w.heap.size < w4.heap.size := by omega
          go_wp2_with fail
          go_quiet ((go_at_call 23; exact quiet_same (ref_Pow G b P _ (by omega) (by omega) (by omega) g2)))
          go_wp2
          go_ret
          exact ⟨ret_bool (by simp [HL.out]), below_drewN (below_two (below_two (below_two (below_two ((Below.refl _ _).alloc (Nat.le_refl _) _) hb1) hb2) hb3) hb4) _⟩
      · have HB := Lib.hid hB
        by_cases hs : m = n ∧ r = s
        · obtain rfl : c = d := by rw [← hc, ← hd, hs.1, hs.2]
          have e1 : (m == n) = true := by simpa using hs.1
          have e2 : (r == s) = true := by simpa using hs.2
          clear h1 h2 hc hd hB hs
          go_enter Try.func8, Try.ntmps8
          go_wp2_with fail
          refine (commit_Commit P Q G H m r _ H1.out.1 H1.out.2.1 H1.out.2.2).mono ?_
          rintro e w1 ⟨rfl, hb1⟩
          rw [HC.out]
          have z1 := hb1.size
          simp at z1
          have k0 := kept hb1 (b := w.heap.size) (o := 0) (v := .int .i64 P) (by simp [go_sem]) (by simp [go_sem] <;> omega)
          have k1 := kept hb1 (b := w.heap.size) (o := 1) (v := .int .i64 Q) (by simp [go_sem]) (by simp [go_sem] <;> omega)
          have k2 := kept hb1 (b := w.heap.size) (o := 2) (v := .int .i64 G) (by simp [go_sem]) (by simp [go_sem] <;> omega)
          have k3 := kept hb1 (b := w.heap.size) (o := 3) (v := .int .i64 H) (by simp [go_sem]) (by simp [go_sem] <;> omega)
          go_wp2_with fail
          refine (commit_Commit P Q G H n s _ H2.out.1 H2.out.2.1 H2.out.2.2).mono ?_
          rintro e w2 ⟨rfl, hb2⟩
          rw [HD.out]
          have z2 := hb2.size
          replace k0 := kept hb2 k0 (by omega)
          replace k1 := kept hb2 k1 (by omega)
          replace k2 := kept hb2 k2 (by omega)
          replace k3 := kept hb2 k3 (by omega)
          have lt2 : w.heap.size < w2.heap.size := by omega
          go_wp2_with fail
          refine (commit_Break_no P Q G H m r n s _ HB.out).mono ?_
          rintro e w3 ⟨⟨v, hv, rfl⟩, hb3⟩
          have hva : (v == 0) = false := by simpa using hv
          have hvb : (v != 0) = true := by simpa using hv
          have z3 := hb3.size
          replace k0 := kept hb3 k0 (by omega)
          replace k1 := kept hb3 k1 (by omega)
          replace k2 := kept hb3 k2 (by omega)
          replace k3 := kept hb3 k3 (by omega)
          have lt3 : w.heap.size < w3.heap.size := by omega
          go_wp2_with fail
          refine (keep_powers P Q G H _ 4 [m, r, n, s] _ ?r1 (by simp)).mono ?_
          case r1 => exact RowI.lits _ _ _ _ rfl
          rintro e w4 ⟨rfl, hb4⟩
          rw [HPW.out]
          have z4 := hb4.size
          simp at z4
          replace hb4 := below_two ((Below.refl _ w3).alloc (Nat.le_refl _) _) hb4
          replace k0 := kept hb4 k0 (by omega)
          replace k1 := kept hb4 k1 (by omega)
          replace k2 := kept hb4 k2 (by omega)
          replace k3 := kept hb4 k3 (by omega)
          have lt4 : w.heap.size < w4.heap.size := by omega
          go_wp2
          go_ret
          exact ⟨ret_bool (by simp), below_two (below_two (below_two (below_two ((Below.refl _ _).alloc (Nat.le_refl _) _) hb1) hb2) hb3) hb4⟩
        · have hcd : ¬ c = d := fun e => hB ⟨h1, h2, by rw [hc, hd, e], hs⟩
          have e3 : (c == d) = false := by simpa using hcd
          have e4 : (c != d) = true := by simpa using hcd
          clear h1 h2 hc hd hB hs hcd
          go_enter Try.func8, Try.ntmps8
          go_wp2_with fail
          refine (commit_Commit P Q G H m r _ H1.out.1 H1.out.2.1 H1.out.2.2).mono ?_
          rintro e w1 ⟨rfl, hb1⟩
          rw [HC.out]
          have z1 := hb1.size
          simp at z1
          have k0 := kept hb1 (b := w.heap.size) (o := 0) (v := .int .i64 P) (by simp [go_sem]) (by simp [go_sem] <;> omega)
          have k1 := kept hb1 (b := w.heap.size) (o := 1) (v := .int .i64 Q) (by simp [go_sem]) (by simp [go_sem] <;> omega)
          have k2 := kept hb1 (b := w.heap.size) (o := 2) (v := .int .i64 G) (by simp [go_sem]) (by simp [go_sem] <;> omega)
          have k3 := kept hb1 (b := w.heap.size) (o := 3) (v := .int .i64 H) (by simp [go_sem]) (by simp [go_sem] <;> omega)
          go_wp2_with fail
          refine (commit_Commit P Q G H n s _ H2.out.1 H2.out.2.1 H2.out.2.2).mono ?_
          rintro e w2 ⟨rfl, hb2⟩
          rw [HD.out]
          have z2 := hb2.size
          replace k0 := kept hb2 k0 (by omega)
          replace k1 := kept hb2 k1 (by omega)
          replace k2 := kept hb2 k2 (by omega)
          replace k3 := kept hb2 k3 (by omega)
          have lt2 : w.heap.size < w2.heap.size := by omega
          go_wp2_with fail
          refine (commit_Break_no P Q G H m r n s _ HB.out).mono ?_
          rintro e w3 ⟨⟨v, hv, rfl⟩, hb3⟩
          have hva : (v == 0) = false := by simpa using hv
          have hvb : (v != 0) = true := by simpa using hv
          have z3 := hb3.size
          replace k0 := kept hb3 k0 (by omega)
          replace k1 := kept hb3 k1 (by omega)
          replace k2 := kept hb3 k2 (by omega)
          replace k3 := kept hb3 k3 (by omega)
          have lt3 : w.heap.size < w3.heap.size := by omega
          go_wp2_with fail
          refine (keep_powers P Q G H _ 4 [m, r, n, s] _ ?r1 (by simp)).mono ?_
          case r1 => exact RowI.lits _ _ _ _ rfl
          rintro e w4 ⟨rfl, hb4⟩
          rw [HPW.out]
          have z4 := hb4.size
          simp at z4
          replace hb4 := below_two ((Below.refl _ w3).alloc (Nat.le_refl _) _) hb4
          replace k0 := kept hb4 k0 (by omega)
          replace k1 := kept hb4 k1 (by omega)
          replace k2 := kept hb4 k2 (by omega)
          replace k3 := kept hb4 k3 (by omega)
          have lt4 : w.heap.size < w4.heap.size := by omega
          go_wp2
          go_ret
          exact ⟨ret_bool (by simp), below_two (below_two (below_two (below_two ((Below.refl _ _).alloc (Nat.le_refl _) _) hb1) hb2) hb3) hb4⟩
    · have HPW := Lib.hid (pows_not (b := powsB Q [m, r, n, s] && (grpE P Q G H == 0)) fun e => h2 (by simp [powsB] at e; exact ⟨e.2, ⟨e.1.2.2.1.1, e.1.2.2.1.2⟩, e.1.2.2.2.1, e.1.2.2.2.2⟩))
      have HB : Hid (¬ BrkOk P Q G H m r n s) := Lib.hid fun h => h2 h.2.1
      have H2 := Lib.hid h2
      clear h1 h2
      go_enter Try.func8, Try.ntmps8
      go_wp2_with fail
      refine (commit_Commit P Q G H m r _ H1.out.1 H1.out.2.1 H1.out.2.2).mono ?_
      rintro e w1 ⟨rfl, hb1⟩
      have z1 := hb1.size
      simp at z1
      have k0 := kept hb1 (b := w.heap.size) (o := 0) (v := .int .i64 P) (by simp [go_sem]) (by simp [go_sem] <;> omega)
      have k1 := kept hb1 (b := w.heap.size) (o := 1) (v := .int .i64 Q) (by simp [go_sem]) (by simp [go_sem] <;> omega)
      have k2 := kept hb1 (b := w.heap.size) (o := 2) (v := .int .i64 G) (by simp [go_sem]) (by simp [go_sem] <;> omega)
      have k3 := kept hb1 (b := w.heap.size) (o := 3) (v := .int .i64 H) (by simp [go_sem]) (by simp [go_sem] <;> omega)
      go_wp2_with fail
      refine (commit_Commit_no P Q G H n s _ H2.out).mono ?_
      rintro e w2 ⟨⟨u, hu, rfl⟩, hb2⟩
      have hua : (u == 0) = false := by simpa using hu
      have hub : (u != 0) = true := by simpa using hu
      have z2 := hb2.size
      replace k0 := kept hb2 k0 (by omega)
      replace k1 := kept hb2 k1 (by omega)
      replace k2 := kept hb2 k2 (by omega)
      replace k3 := kept hb2 k3 (by omega)
      have lt2 : w.heap.size < w2.heap.size := by omega
      go_wp2_with fail
      refine (commit_Break_no P Q G H m r n s _ HB.out).mono ?_
      rintro e w3 ⟨⟨v, hv, rfl⟩, hb3⟩
      have hva : (v == 0) = false := by simpa using hv
      have hvb : (v != 0) = true := by simpa using hv
      have z3 := hb3.size
      replace k0 := kept hb3 k0 (by omega)
      replace k1 := kept hb3 k1 (by omega)
      replace k2 := kept hb3 k2 (by omega)
      replace k3 := kept hb3 k3 (by omega)
      have lt3 : w.heap.size < w3.heap.size := by omega
      go_wp2_with fail
      refine (keep_powers P Q G H _ 4 [m, r, n, s] _ ?r1 (by simp)).mono ?_
      case r1 => exact RowI.lits _ _ _ _ rfl
      rintro e w4 ⟨rfl, hb4⟩
      rw [HPW.out]
      have z4 := hb4.size
      simp at z4
      replace hb4 := below_two ((Below.refl _ w3).alloc (Nat.le_refl _) _) hb4
      replace k0 := kept hb4 k0 (by omega)
      replace k1 := kept hb4 k1 (by omega)
      replace k2 := kept hb4 k2 (by omega)
      replace k3 := kept hb4 k3 (by omega)
      have lt4 : w.heap.size < w4.heap.size := by omega
      go_wp2
      go_ret
      exact ⟨ret_bool (by simp), below_two (below_two (below_two (below_two ((Below.refl _ _).alloc (Nat.le_refl _) _) hb1) hb2) hb3) hb4⟩
  · have H1 := Lib.hid h1
    have HPW := Lib.hid (pows_not (b := powsB Q [m, r, n, s] && (grpE P Q G H == 0)) fun e => h1 (by simp [powsB] at e; exact ⟨e.2, e.1.1, e.1.2.1⟩))
    have HB : Hid (¬ BrkOk P Q G H m r n s) := Lib.hid fun h => h1 h.1
    by_cases h2 : grpE P Q G H = 0 ∧ (0 ≤ n ∧ n < Q) ∧ 0 ≤ s ∧ s < Q
    · have H2 := Lib.hid h2
      clear h1 h2
      go_enter Try.func8, Try.ntmps8
      go_wp2_with fail
      refine (commit_Commit_no P Q G H m r _ H1.out).mono ?_
      rintro e w1 ⟨⟨t, ht, rfl⟩, hb1⟩
      have hta : (t == 0) = false := by simpa using ht
      have htb : (t != 0) = true := by simpa using ht
      have z1 := hb1.size
      simp at z1
      have k0 := kept hb1 (b := w.heap.size) (o := 0) (v := .int .i64 P) (by simp [go_sem]) (by simp [go_sem] <;> omega)
      have k1 := kept hb1 (b := w.heap.size) (o := 1) (v := .int .i64 Q) (by simp [go_sem]) (by simp [go_sem] <;> omega)
      have k2 := kept hb1 (b := w.heap.size) (o := 2) (v := .int .i64 G) (by simp [go_sem]) (by simp [go_sem] <;> omega)
      have k3 := kept hb1 (b := w.heap.size) (o := 3) (v := .int .i64 H) (by simp [go_sem]) (by simp [go_sem] <;> omega)
      go_wp2_with fail
      refine (commit_Commit P Q G H n s _ H2.out.1 H2.out.2.1 H2.out.2.2).mono ?_
      rintro e w2 ⟨rfl, hb2⟩
      have z2 := hb2.size
      replace k0 := kept hb2 k0 (by omega)
      replace k1 := kept hb2 k1 (by omega)
      replace k2 := kept hb2 k2 (by omega)
      replace k3 := kept hb2 k3 (by omega)
      have lt2 : w.heap.size < w2.heap.size := by omega
      go_wp2_with fail
      refine (commit_Break_no P Q G H m r n s _ HB.out).mono ?_
      rintro e w3 ⟨⟨v, hv, rfl⟩, hb3⟩
      have hva : (v == 0) = false := by simpa using hv
      have hvb : (v != 0) = true := by simpa using hv
      have z3 := hb3.size
      replace k0 := kept hb3 k0 (by omega)
      replace k1 := kept hb3 k1 (by omega)
      replace k2 := kept hb3 k2 (by omega)
      replace k3 := kept hb3 k3 (by omega)
      have lt3 : w.heap.size < w3.heap.size := by omega
      go_wp2_with fail
      refine (keep_powers P Q G H _ 4 [m, r, n, s] _ ?r1 (by simp)).mono ?_
      case r1 => exact RowI.lits _ _ _ _ rfl
      rintro e w4 ⟨rfl, hb4⟩
      rw [HPW.out]
      have z4 := hb4.size
      simp at z4
      replace hb4 := below_two ((Below.refl _ w3).alloc (Nat.le_refl _) _) hb4
      replace k0 := kept hb4 k0 (by omega)
      replace k1 := kept hb4 k1 (by omega)
      replace k2 := kept hb4 k2 (by omega)
      replace k3 := kept hb4 k3 (by omega)
      have lt4 : w.heap.size < w4.heap.size := by omega
      go_wp2
      go_ret
      exact ⟨ret_bool (by simp), below_two (below_two (below_two (below_two ((Below.refl _ _).alloc (Nat.le_refl _) _) hb1) hb2) hb3) hb4⟩
    · have H2 := Lib.hid h2
      clear h1 h2
      go_enter Try.func8, Try.ntmps8
      go_wp2_with fail
      refine (commit_Commit_no P Q G H m r _ H1.out).mono ?_
      rintro e w1 ⟨⟨t, ht, rfl⟩, hb1⟩
      have hta : (t == 0) = false := by simpa using ht
      have htb : (t != 0) = true := by simpa using ht
      have z1 := hb1.size
      simp at z1
      have k0 := kept hb1 (b := w.heap.size) (o := 0) (v := .int .i64 P) (by simp [go_sem]) (by simp [go_sem] <;> omega)
      have k1 := kept hb1 (b := w.heap.size) (o := 1) (v := .int .i64 Q) (by simp [go_sem]) (by simp [go_sem] <;> omega)
      have k2 := kept hb1 (b := w.heap.size) (o := 2) (v := .int .i64 G) (by simp [go_sem]) (by simp [go_sem] <;> omega)
      have k3 := kept hb1 (b := w.heap.size) (o := 3) (v := .int .i64 H) (by simp [go_sem]) (by simp [go_sem] <;> omega)
      go_wp2_with fail
      refine (commit_Commit_no P Q G H n s _ H2.out).mono ?_
      rintro e w2 ⟨⟨u, hu, rfl⟩, hb2⟩
      have hua : (u == 0) = false := by simpa using hu
      have hub : (u != 0) = true := by simpa using hu
      have z2 := hb2.size
      replace k0 := kept hb2 k0 (by omega)
      replace k1 := kept hb2 k1 (by omega)
      replace k2 := kept hb2 k2 (by omega)
      replace k3 := kept hb2 k3 (by omega)
      have lt2 : w.heap.size < w2.heap.size := by omega
      go_wp2_with fail
      refine (commit_Break_no P Q G H m r n s _ HB.out).mono ?_
      rintro e w3 ⟨⟨v, hv, rfl⟩, hb3⟩
      have hva : (v == 0) = false := by simpa using hv
      have hvb : (v != 0) = true := by simpa using hv
      have z3 := hb3.size
      replace k0 := kept hb3 k0 (by omega)
      replace k1 := kept hb3 k1 (by omega)
      replace k2 := kept hb3 k2 (by omega)
      replace k3 := kept hb3 k3 (by omega)
      have lt3 : w.heap.size < w3.heap.size := by omega
      go_wp2_with fail
      refine (keep_powers P Q G H _ 4 [m, r, n, s] _ ?r1 (by simp)).mono ?_
      case r1 => exact RowI.lits _ _ _ _ rfl
      rintro e w4 ⟨rfl, hb4⟩
      rw [HPW.out]
      have z4 := hb4.size
      simp at z4
      replace hb4 := below_two ((Below.refl _ w3).alloc (Nat.le_refl _) _) hb4
      replace k0 := kept hb4 k0 (by omega)
      replace k1 := kept hb4 k1 (by omega)
      replace k2 := kept hb4 k2 (by omega)
      replace k3 := kept hb4 k3 (by omega)
      have lt4 : w.heap.size < w4.heap.size := by omega
      go_wp2
      go_ret
      exact ⟨ret_bool (by simp), below_two (below_two (below_two (below_two ((Below.refl _ _).alloc (Nat.le_refl _) _) hb1) hb2) hb3) hb4⟩
end Go.Proofs.Ytgmkmlfppblpfaa

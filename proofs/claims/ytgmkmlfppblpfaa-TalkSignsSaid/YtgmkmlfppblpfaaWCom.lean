/- The walk of the statement CommitAdds. -/
import Derived.Test.YtgmkmlfppblpfaaCom
import Derived.Test.YtgmkmlfppblpfaaWGrp3
namespace Go.Proofs.Ytgmkmlfppblpfaa
open Go.RowKit
set_option linter.unusedVariables false
set_option linter.unusedSimpArgs false
theorem RowI.lits (w : World) (T : Nat) (zs : List Int) (vs : Array Value) (h : vs = (zs.map (Value.int .i64)).toArray) : RowI (w.alloc (.cells vs T)) (some ⟨w.heap.size, 0, none⟩) zs := by
  subst h
  exact RowI.cells fun i x hx => by simp [hx]
theorem pows5 {P Q G H m r n s : Int} (hg : grpE P Q G H = 0) (h1 : 0 ≤ m ∧ m < Q) (h2 : 0 ≤ r ∧ r < Q) (h3 : 0 ≤ n ∧ n < Q) (h4 : 0 ≤ s ∧ s < Q) : (powsB Q [m, r, n, s] && (grpE P Q G H == 0)) = true := by
  simp [powsB, h1.1, h1.2, h2.1, h2.2, h3.1, h3.2, h4.1, h4.2, hg]
theorem com_pos {P Q G H m r : Int} (hg : grpE P Q G H = 0) (hm : 0 ≤ m) (hr : 0 ≤ r) : memB P Q (com P G H m r) = true := by
  have ⟨⟨g1, g2, g3, g4, g5, _⟩, hp, hq, _, hG, hH⟩ := grpE_zero hg
  exact mem_mul (by omega) (by omega) (mem_pw (by omega) (by omega) hG hm) (mem_pw (by omega) (by omega) hH hr)
theorem com_add {P Q G H m r n s : Int} (hg : grpE P Q G H = 0) (hm : 0 ≤ m) (hr : 0 ≤ r) (hn : 0 ≤ n) (hs : 0 ≤ s) : com P G H ((m + n) % Q) ((r + s) % Q) = com P G H m r * com P G H n s % P := by
  have ⟨⟨g1, g2, g3, g4, g5, _⟩, hp, hq, _, hG, hH⟩ := grpE_zero hg
  unfold com
  rw [pw_mod (by omega) (by omega) hG (by omega), pw_mod (by omega) (by omega) hH (by omega), ← pw_add G P hm hn, ← pw_add H P hr hs, ← Int.mul_emod, ← Int.mul_emod]
  rw [Int.mul_assoc, Int.mul_left_comm (pw G n P), ← Int.mul_assoc]
set_option maxHeartbeats 3200000 in
theorem WCommitAdds (P : Int) (Q : Int) (G : Int) (H : Int) (m : Int) (r : Int) (n : Int) (s : Int) (w : World) (w0x : (Lit.int .i64 P).wf = true) (w0y : (Lit.int .i64 Q).wf = true) (w0z : (Lit.int .i64 G).wf = true) (w0u : (Lit.int .i64 H).wf = true) (w1 : (Lit.int .i64 m).wf = true) (w2 : (Lit.int .i64 r).wf = true) (w3 : (Lit.int .i64 n).wf = true) (w4 : (Lit.int .i64 s).wf = true) :
    Calls Try.prog 6 #[.agg #[.int .i64 P, .int .i64 Q, .int .i64 G, .int .i64 H], .int .i64 m, .int .i64 r, .int .i64 n, .int .i64 s] w fun e w' => e = .returned (.bool true) ∧ Below w.heap.size w w' := by
  clear w0x w0y w0z w0u w1 w2 w3 w4
  by_cases h1 : grpE P Q G H = 0 ∧ (0 ≤ m ∧ m < Q) ∧ 0 ≤ r ∧ r < Q
  · have H1 := Lib.hid h1
    by_cases h2 : grpE P Q G H = 0 ∧ (0 ≤ n ∧ n < Q) ∧ 0 ≤ s ∧ s < Q
    · have H2 := Lib.hid h2
      obtain ⟨hg, ⟨m1, m2⟩, r1, r2⟩ := h1
      obtain ⟨_, ⟨n1, n2⟩, s1, s2⟩ := h2
      have ⟨⟨g1, g2, g3, g4, g5, _⟩, hp, hq, _, hG, hH⟩ := grpE_zero hg
      have HPW := Lib.hid (pows5 hg ⟨m1, m2⟩ ⟨r1, r2⟩ ⟨n1, n2⟩ ⟨s1, s2⟩)
      have c1 := com_pos hg m1 r1
      have c2 := com_pos hg n1 s1
      have HCA := Lib.hid (com_add hg m1 r1 n1 s1)
      have a1 := Int.emod_nonneg (m + n) (show Q ≠ 0 by omega)
      have a2 := Int.emod_lt_of_pos (m + n) (show 0 < Q by omega)
      have b1 := Int.emod_nonneg (r + s) (show Q ≠ 0 by omega)
      have b2 := Int.emod_lt_of_pos (r + s) (show 0 < Q by omega)
      have H3 := Lib.hid (show grpE P Q G H = 0 ∧ (0 ≤ (m + n) % Q ∧ (m + n) % Q < Q) ∧ 0 ≤ (r + s) % Q ∧ (r + s) % Q < Q from ⟨hg, ⟨a1, a2⟩, b1, b2⟩)
      have hx := memB_iff.1 (mem_mul (by omega) (by omega) c1 c2)
      obtain ⟨c3, c4, _⟩ := memB_iff.1 c1
      obtain ⟨d3, d4, _⟩ := memB_iff.1 c2
      obtain ⟨c, hc⟩ : ∃ c, com P G H m r = c := ⟨_, rfl⟩
      obtain ⟨d, hd⟩ : ∃ c, com P G H n s = c := ⟨_, rfl⟩
      rw [hc] at c3 c4 HCA hx
      rw [hd] at d3 d4 HCA hx
      have hx1 := hx.1
      have HC := Lib.hid hc
      have HD := Lib.hid hd
      clear hg hp hq hG hH c1 c2 hc hd hx a1 a2 b1 b2
      have q := mul_lim (show 0 ≤ c by omega) (by omega) (show 0 ≤ d by omega) (by omega)
      have f1 : IntKind.i64.wrap (c * d) = c * d := IntWalk.i64_in _ (by omega)
      have f2 : Int.tmod (c * d) P = c * d % P := Int.tmod_eq_emod_of_nonneg q.1
      have f3 : (P == 0) = false := by simp; omega
      have f4 : ¬ P = 0 := by omega
      have f5 : (Q == 0) = false := by simp; omega
      have f6 : ¬ Q = 0 := by omega
      have f7 : IntKind.i64.wrap (m + n) = m + n := IntWalk.i64_in _ (by omega)
      have f8 : IntKind.i64.wrap (r + s) = r + s := IntWalk.i64_in _ (by omega)
      have f9 : Int.tmod (m + n) Q = (m + n) % Q := Int.tmod_eq_emod_of_nonneg (by omega)
      have f10 : Int.tmod (r + s) Q = (r + s) % Q := Int.tmod_eq_emod_of_nonneg (by omega)
      go_enter Try.func6, Try.ntmps6
      go_wp2_with fail
      refine (commit_Commit P Q G H m r _ H1.out.1 H1.out.2.1 H1.out.2.2).mono ?_
      rintro e w1 ⟨rfl, hb1⟩
      rw [HC.out]
      have z1 := hb1.size
      simp at z1
      have k0 := kept hb1 (b := w.heap.size) (o := 0) (v := .int .i64 P) (by simp [go_sem]) (by simp [go_sem] <;> omega)
      have k1 := kept hb1 (b := w.heap.size) (o := 1) (v := .int .i64 Q) (by simp [go_sem]) (by simp [go_sem] <;> omega)
      have k2 := kept hb1 (b := w.heap.size) (o := 2) (v := .int .i64 G) (by simp [go_sem]) (by simp [go_sem] <;> omega)
      have k3 := kept hb1 (b := w.heap.size) (o := 3) (v := .int .i64 H) (by simp [go_sem]) (by simp [go_sem] <;> omega)
      go_wp2_with fail
      refine (commit_Commit P Q G H n s _ H2.out.1 H2.out.2.1 H2.out.2.2).mono ?_
      rintro e w2 ⟨rfl, hb2⟩
      rw [HD.out]
      have z2 := hb2.size
      replace k0 := kept hb2 k0 (by omega)
      replace k1 := kept hb2 k1 (by omega)
      replace k2 := kept hb2 k2 (by omega)
      replace k3 := kept hb2 k3 (by omega)
      have lt2 : w.heap.size < w2.heap.size := by omega
      go_wp2_with fail
      refine (keep_powers P Q G H _ 4 [m, r, n, s] _ ?r1 (by simp)).mono ?_
      case r1 => exact RowI.lits _ _ _ _ rfl
      rintro e w3 ⟨rfl, hb3⟩
      rw [HPW.out]
      have z3 := hb3.size
      simp at z3
      replace hb3 := below_two ((Below.refl _ w2).alloc (Nat.le_refl _) _) hb3
      replace k0 := kept hb3 k0 (by omega)
      replace k1 := kept hb3 k1 (by omega)
      replace k2 := kept hb3 k2 (by omega)
      replace k3 := kept hb3 k3 (by omega)
      have lt3 : w.heap.size < w3.heap.size := by omega
      go_wp2_with fail
      go_region_held3 (fun w' => w'.cell? ⟨w.heap.size, 0, none⟩ = some (.int .i64 P) ∧ w'.cell? ⟨w.heap.size, 1, none⟩ = some (.int .i64 Q) ∧ w'.cell? ⟨w.heap.size, 2, none⟩ = some (.int .i64 G) ∧ w'.cell? ⟨w.heap.size, 3, none⟩ = some (.int .i64 H))
        (first | go_keep | exact ⟨kept hb4 (by simpa using k0) (by simp; omega), kept hb4 (by simpa using k1) (by simp; omega), kept hb4 (by simpa using k2) (by simp; omega), kept hb4 (by simpa using k3) (by simp; omega)⟩)
        (first | (go_at_call 21; refine (commit_Commit P Q G H ((m + n) % Q) ((r + s) % Q) _ H3.out.1 H3.out.2.1 H3.out.2.2).mono ?_; rintro e w4 ⟨rfl, hb4⟩; rw [HCA.out]))
      have z4 : w3.heap.size ≤ w4.heap.size := hb4.size
      replace k0 := kept hb4 (by simpa using k0) (show w.heap.size < w3.heap.size by omega)
      replace k1 := kept hb4 (by simpa using k1) (show w.heap.size < w3.heap.size by omega)
      replace k2 := kept hb4 (by simpa using k2) (show w.heap.size < w3.heap.size by omega)
      replace k3 := kept hb4 (by simpa using k3) (show w.heap.size < w3.heap.size by omega)
      have lt4 : w.heap.size < w4.heap.size := by omega
      go_wp2
      go_ret
      exact ⟨ret_bool (by simp), below_two (below_two (below_two (below_two ((Below.refl _ _).alloc (Nat.le_refl _) _) hb1) hb2) hb3).drew hb4⟩
    · have HPW := Lib.hid (pows_not (b := powsB Q [m, r, n, s] && (grpE P Q G H == 0)) fun e => h2 (by simp [powsB] at e; exact ⟨e.2, ⟨e.1.2.2.1.1, e.1.2.2.1.2⟩, e.1.2.2.2.1, e.1.2.2.2.2⟩))
      have H2 := Lib.hid h2
      clear h1 h2
      go_enter Try.func6, Try.ntmps6
      go_wp2_with fail
      refine (commit_Commit P Q G H m r _ H1.out.1 H1.out.2.1 H1.out.2.2).mono ?_
      rintro e w1 ⟨rfl, hb1⟩
      have z1 := hb1.size
      simp at z1
      have k0 := kept hb1 (b := w.heap.size) (o := 0) (v := .int .i64 P) (by simp [go_sem]) (by simp [go_sem] <;> omega)
      have k1 := kept hb1 (b := w.heap.size) (o := 1) (v := .int .i64 Q) (by simp [go_sem]) (by simp [go_sem] <;> omega)
      have k2 := kept hb1 (b := w.heap.size) (o := 2) (v := .int .i64 G) (by simp [go_sem]) (by simp [go_sem] <;> omega)
      have k3 := kept hb1 (b := w.heap.size) (o := 3) (v := .int .i64 H) (by simp [go_sem]) (by simp [go_sem] <;> omega)
      go_wp2_with fail
      refine (commit_Commit_no P Q G H n s _ H2.out).mono ?_
      rintro e w2 ⟨⟨u, hu, rfl⟩, hb2⟩
      have hua : (u == 0) = false := by simpa using hu
      have hub : (u != 0) = true := by simpa using hu
      have z2 := hb2.size
      replace k0 := kept hb2 k0 (by omega)
      replace k1 := kept hb2 k1 (by omega)
      replace k2 := kept hb2 k2 (by omega)
      replace k3 := kept hb2 k3 (by omega)
      have lt2 : w.heap.size < w2.heap.size := by omega
      go_wp2_with fail
      refine (keep_powers P Q G H _ 4 [m, r, n, s] _ ?r1 (by simp)).mono ?_
      case r1 => exact RowI.lits _ _ _ _ rfl
      rintro e w3 ⟨rfl, hb3⟩
      rw [HPW.out]
      have z3 := hb3.size
      simp at z3
      replace hb3 := below_two ((Below.refl _ w2).alloc (Nat.le_refl _) _) hb3
      replace k0 := kept hb3 k0 (by omega)
      replace k1 := kept hb3 k1 (by omega)
      replace k2 := kept hb3 k2 (by omega)
      replace k3 := kept hb3 k3 (by omega)
      have lt3 : w.heap.size < w3.heap.size := by omega
      go_wp2
      go_ret
      exact ⟨ret_bool (by simp), below_two (below_two (below_two ((Below.refl _ _).alloc (Nat.le_refl _) _) hb1) hb2) hb3⟩
  · have H1 := Lib.hid h1
    have HPW := Lib.hid (pows_not (b := powsB Q [m, r, n, s] && (grpE P Q G H == 0)) fun e => h1 (by simp [powsB] at e; exact ⟨e.2, e.1.1, e.1.2.1⟩))
    by_cases h2 : grpE P Q G H = 0 ∧ (0 ≤ n ∧ n < Q) ∧ 0 ≤ s ∧ s < Q
    · have H2 := Lib.hid h2
      clear h1 h2
      go_enter Try.func6, Try.ntmps6
      go_wp2_with fail
      refine (commit_Commit_no P Q G H m r _ H1.out).mono ?_
      rintro e w1 ⟨⟨t, ht, rfl⟩, hb1⟩
      have hta : (t == 0) = false := by simpa using ht
      have htb : (t != 0) = true := by simpa using ht
      have z1 := hb1.size
      simp at z1
      have k0 := kept hb1 (b := w.heap.size) (o := 0) (v := .int .i64 P) (by simp [go_sem]) (by simp [go_sem] <;> omega)
      have k1 := kept hb1 (b := w.heap.size) (o := 1) (v := .int .i64 Q) (by simp [go_sem]) (by simp [go_sem] <;> omega)
      have k2 := kept hb1 (b := w.heap.size) (o := 2) (v := .int .i64 G) (by simp [go_sem]) (by simp [go_sem] <;> omega)
      have k3 := kept hb1 (b := w.heap.size) (o := 3) (v := .int .i64 H) (by simp [go_sem]) (by simp [go_sem] <;> omega)
      go_wp2_with fail
      refine (commit_Commit P Q G H n s _ H2.out.1 H2.out.2.1 H2.out.2.2).mono ?_
      rintro e w2 ⟨rfl, hb2⟩
      have z2 := hb2.size
      replace k0 := kept hb2 k0 (by omega)
      replace k1 := kept hb2 k1 (by omega)
      replace k2 := kept hb2 k2 (by omega)
      replace k3 := kept hb2 k3 (by omega)
      have lt2 : w.heap.size < w2.heap.size := by omega
      go_wp2_with fail
      refine (keep_powers P Q G H _ 4 [m, r, n, s] _ ?r1 (by simp)).mono ?_
      case r1 => exact RowI.lits _ _ _ _ rfl
      rintro e w3 ⟨rfl, hb3⟩
      rw [HPW.out]
      have z3 := hb3.size
      simp at z3
      replace hb3 := below_two ((Below.refl _ w2).alloc (Nat.le_refl _) _) hb3
      replace k0 := kept hb3 k0 (by omega)
      replace k1 := kept hb3 k1 (by omega)
      replace k2 := kept hb3 k2 (by omega)
      replace k3 := kept hb3 k3 (by omega)
      have lt3 : w.heap.size < w3.heap.size := by omega
      go_wp2
      go_ret
      exact ⟨ret_bool (by simp), below_two (below_two (below_two ((Below.refl _ _).alloc (Nat.le_refl _) _) hb1) hb2) hb3⟩
    · have H2 := Lib.hid h2
      clear h1 h2
      go_enter Try.func6, Try.ntmps6
      go_wp2_with fail
      refine (commit_Commit_no P Q G H m r _ H1.out).mono ?_
      rintro e w1 ⟨⟨t, ht, rfl⟩, hb1⟩
      have hta : (t == 0) = false := by simpa using ht
      have htb : (t != 0) = true := by simpa using ht
      have z1 := hb1.size
      simp at z1
      have k0 := kept hb1 (b := w.heap.size) (o := 0) (v := .int .i64 P) (by simp [go_sem]) (by simp [go_sem] <;> omega)
      have k1 := kept hb1 (b := w.heap.size) (o := 1) (v := .int .i64 Q) (by simp [go_sem]) (by simp [go_sem] <;> omega)
      have k2 := kept hb1 (b := w.heap.size) (o := 2) (v := .int .i64 G) (by simp [go_sem]) (by simp [go_sem] <;> omega)
      have k3 := kept hb1 (b := w.heap.size) (o := 3) (v := .int .i64 H) (by simp [go_sem]) (by simp [go_sem] <;> omega)
      go_wp2_with fail
      refine (commit_Commit_no P Q G H n s _ H2.out).mono ?_
      rintro e w2 ⟨⟨u, hu, rfl⟩, hb2⟩
      have hua : (u == 0) = false := by simpa using hu
      have hub : (u != 0) = true := by simpa using hu
      have z2 := hb2.size
      replace k0 := kept hb2 k0 (by omega)
      replace k1 := kept hb2 k1 (by omega)
      replace k2 := kept hb2 k2 (by omega)
      replace k3 := kept hb2 k3 (by omega)
      have lt2 : w.heap.size < w2.heap.size := by omega
      go_wp2_with fail
      refine (keep_powers P Q G H _ 4 [m, r, n, s] _ ?r1 (by simp)).mono ?_
      case r1 => exact RowI.lits _ _ _ _ rfl
      rintro e w3 ⟨rfl, hb3⟩
      rw [HPW.out]
      have z3 := hb3.size
      simp at z3
      replace hb3 := below_two ((Below.refl _ w2).alloc (Nat.le_refl _) _) hb3
      replace k0 := kept hb3 k0 (by omega)
      replace k1 := kept hb3 k1 (by omega)
      replace k2 := kept hb3 k2 (by omega)
      replace k3 := kept hb3 k3 (by omega)
      have lt3 : w.heap.size < w3.heap.size := by omega
      go_wp2
      go_ret
      exact ⟨ret_bool (by simp), below_two (below_two (below_two ((Below.refl _ _).alloc (Nat.le_refl _) _) hb1) hb2) hb3⟩
end Go.Proofs.Ytgmkmlfppblpfaa

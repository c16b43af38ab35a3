/- The walk of the statement TalkWhole. -/
import Derived.Test.YtgmkmlfppblpfaaTk4
namespace Go.Proofs.Ytgmkmlfppblpfaa
open Go.RowKit
set_option linter.unusedVariables false
set_option linter.unusedSimpArgs false
theorem speak_right {P Q G H s k q : Int} (hg : grpE P Q G H = 0) (hp : powsB Q [s, k, q] = true) : rightB P G (pw G s P) (pw G k P) q ((k + q * s) % Q) = true := by
  obtain ⟨hs, hk, hq⟩ := pows_three.1 hp
  have ⟨⟨g1, g2, g3, g4, g5, _⟩, _, _, _, hG, _⟩ := grpE_zero hg
  have m := Int.mul_nonneg hq.1 hs.1
  unfold rightB
  rw [pw_mod (by omega) (by omega) hG (by omega), pw_pw G P hs.1 hq.1, pw_add G P hk.1 (Int.mul_nonneg hs.1 hq.1), Int.mul_comm s q]
  simp
theorem speak_said {P Q G H s k q : Int} (hg : grpE P Q G H = 0) (hp : powsB Q [s, k, q] = true) : saidB P Q (pw G s P) [(pw G k P, q, (k + q * s) % Q)] = true := by
  obtain ⟨hs, hk, hq⟩ := pows_three.1 hp
  have ⟨⟨g1, g2, g3, g4, g5, _⟩, _, _, _, hG, _⟩ := grpE_zero hg
  exact said_one.2 ⟨⟨hq, Int.emod_nonneg _ (by omega), Int.emod_lt_of_pos _ (by omega)⟩, mem_pw (by omega) (by omega) hG hs.1, mem_pw (by omega) (by omega) hG hk.1⟩
theorem chk_ok {P Q G H y f q v : Int} {w : World} (hg : grpE P Q G H = 0) (hs : saidB P Q y [(f, q, v)] = true) (hr : rightB P G y f q v = true) :
    Calls Try.prog 27 #[.agg #[.int .i64 P, .int .i64 Q, .int .i64 G, .int .i64 H], .int .i64 y, .agg #[.int .i64 f, .int .i64 q, .int .i64 v]] w fun e w' => e = .returned (.tuple #[.bool true, .int .i64 0]) ∧ Below w.heap.size w w' := by
  refine (talk_Check P Q G H y f q v w hg).mono ?_
  rintro e w' ⟨⟨_, rfl⟩ | ⟨h, _⟩, hb⟩
  · rw [hr]; exact ⟨rfl, hb⟩
  · rw [hs] at h; cases h
set_option maxHeartbeats 3200000 in
theorem WTalkWhole (P : Int) (Q : Int) (G : Int) (H : Int) (s : Int) (k : Int) (q : Int) (w : World) (w0x : (Lit.int .i64 P).wf = true) (w0y : (Lit.int .i64 Q).wf = true) (w0z : (Lit.int .i64 G).wf = true) (w0u : (Lit.int .i64 H).wf = true) (w1 : (Lit.int .i64 s).wf = true) (w2 : (Lit.int .i64 k).wf = true) (w3 : (Lit.int .i64 q).wf = true) :
    Calls Try.prog 10 #[.agg #[.int .i64 P, .int .i64 Q, .int .i64 G, .int .i64 H], .int .i64 s, .int .i64 k, .int .i64 q] w fun e w' => e = .returned (.bool true) ∧ Below w.heap.size w w' := by
  clear w0x w0y w0z w0u w1 w2 w3
  by_cases h : grpE P Q G H = 0 ∧ powsB Q [s, k, q] = true
  · obtain ⟨hg, hp⟩ := h
    have HG := Lib.hid hg
    have HP := Lib.hid hp
    have HPW : Hid ((powsB Q [s, k, q] && (grpE P Q G H == 0)) = true) := Lib.hid (by rw [hp, hg]; rfl)
    have HSH := Lib.hid ((shE_own (a := s) hg).2 (pows_three.1 hp).1)
    have HSA := Lib.hid (speak_said hg hp)
    have HRI := Lib.hid (speak_right hg hp)
    obtain ⟨X, hX⟩ : ∃ X, pw G s P = X := ⟨_, rfl⟩
    obtain ⟨f, hf⟩ : ∃ X, pw G k P = X := ⟨_, rfl⟩
    obtain ⟨v, hv⟩ : ∃ X, (k + q * s) % Q = X := ⟨_, rfl⟩
    rw [hX, hf, hv] at HSA HRI
    have HX := Lib.hid hX
    have HF := Lib.hid hf
    have HV := Lib.hid hv
    clear hg hp hX hf hv
    go_enter Try.func10, Try.ntmps10
    go_wp2_with fail
    refine (talk_Speak P Q G H s k q _ HG.out HP.out).mono ?_
    rintro e w1 ⟨rfl, hb1⟩
    rw [HF.out]
    rw [HV.out]
    have z1 := hb1.size
    simp at z1
    have k0 := kept hb1 (b := w.heap.size) (o := 0) (v := .int .i64 P) (by simp [go_sem]) (by simp [go_sem] <;> omega)
    have k1 := kept hb1 (b := w.heap.size) (o := 1) (v := .int .i64 Q) (by simp [go_sem]) (by simp [go_sem] <;> omega)
    have k2 := kept hb1 (b := w.heap.size) (o := 2) (v := .int .i64 G) (by simp [go_sem]) (by simp [go_sem] <;> omega)
    have k3 := kept hb1 (b := w.heap.size) (o := 3) (v := .int .i64 H) (by simp [go_sem]) (by simp [go_sem] <;> omega)
    have lt1 : w.heap.size < w1.heap.size := by omega
    go_wp2_with fail
    refine (keep_powers P Q G H _ 3 [s, k, q] _ ?r1 (by simp)).mono ?_
    case r1 => exact RowI.three (by simp [go_sem]) (by simp [go_sem]) (by simp [go_sem]) (by simp [go_sem])
    rintro e w2 ⟨rfl, hb2⟩
    rw [HPW.out]
    have c0 := kept hb2 (b := w1.heap.size) (o := 0) (v := .int .i64 f) (by simp [go_sem]) (by simp [go_sem] <;> omega)
    have c1 := kept hb2 (b := w1.heap.size) (o := 1) (v := .int .i64 q) (by simp [go_sem]) (by simp [go_sem] <;> omega)
    have c2 := kept hb2 (b := w1.heap.size) (o := 2) (v := .int .i64 v) (by simp [go_sem]) (by simp [go_sem] <;> omega)
    have z2 := hb2.size
    simp at z2
    replace hb2 := below_two (((Below.refl _ w1).alloc (Nat.le_refl _) _).alloc (by simp) _) hb2
    replace k0 := kept hb2 k0 (by omega)
    replace k1 := kept hb2 k1 (by omega)
    replace k2 := kept hb2 k2 (by omega)
    replace k3 := kept hb2 k3 (by omega)
    have lt2 : w.heap.size < w2.heap.size := by omega
    go_wp2_with fail
    refine (group_Public P Q G H s _ HSH.out).mono ?_
    rintro e w3 ⟨rfl, hb3⟩
    rw [HX.out]
    have z3 := hb3.size
    replace k0 := kept hb3 k0 (by omega)
    replace k1 := kept hb3 k1 (by omega)
    replace k2 := kept hb3 k2 (by omega)
    replace k3 := kept hb3 k3 (by omega)
    replace c0 := kept hb3 c0 (by omega)
    replace c1 := kept hb3 c1 (by omega)
    replace c2 := kept hb3 c2 (by omega)
    have lt3 : w.heap.size < w3.heap.size := by omega
    go_wp2_with fail
    refine (chk_ok HG.out HSA.out HRI.out).mono ?_
    rintro e w4 ⟨rfl, hb4⟩
    have z4 := hb4.size
    replace k0 := kept hb4 k0 (by omega)
    replace k1 := kept hb4 k1 (by omega)
    replace k2 := kept hb4 k2 (by omega)
    replace k3 := kept hb4 k3 (by omega)
    replace c0 := kept hb4 c0 (by omega)
    replace c1 := kept hb4 c1 (by omega)
    replace c2 := kept hb4 c2 (by omega)
    have lt4 : w.heap.size < w4.heap.size := by omega
    go_wp2
    go_ret
    exact ⟨ret_bool (by simp), below_two (below_two (below_two (below_two ((Below.refl _ _).alloc (Nat.le_refl _) _) hb1) hb2) hb3) hb4⟩
  · have HN := Lib.hid h
    have HPW := Lib.hid (pows_not (b := powsB Q [s, k, q] && (grpE P Q G H == 0)) fun e => h (by simp at e; exact ⟨e.2, e.1⟩))
    clear h
    go_enter Try.func10, Try.ntmps10
    go_wp2_with fail
    refine (talk_Speak_no P Q G H s k q _ HN.out).mono ?_
    rintro e w1 ⟨⟨t, ht, rfl⟩, hb1⟩
    have hta : (t == 0) = false := by simpa using ht
    have htb : (t != 0) = true := by simpa using ht
    have z1 := hb1.size
    simp at z1
    have k0 := kept hb1 (b := w.heap.size) (o := 0) (v := .int .i64 P) (by simp [go_sem]) (by simp [go_sem] <;> omega)
    have k1 := kept hb1 (b := w.heap.size) (o := 1) (v := .int .i64 Q) (by simp [go_sem]) (by simp [go_sem] <;> omega)
    have k2 := kept hb1 (b := w.heap.size) (o := 2) (v := .int .i64 G) (by simp [go_sem]) (by simp [go_sem] <;> omega)
    have k3 := kept hb1 (b := w.heap.size) (o := 3) (v := .int .i64 H) (by simp [go_sem]) (by simp [go_sem] <;> omega)
    have lt1 : w.heap.size < w1.heap.size := by omega
    go_wp2_with fail
    refine (keep_powers P Q G H _ 3 [s, k, q] _ ?r1 (by simp)).mono ?_
    case r1 => exact RowI.three (by simp [go_sem]) (by simp [go_sem]) (by simp [go_sem]) (by simp [go_sem])
    rintro e w2 ⟨rfl, hb2⟩
    rw [HPW.out]
    have z2 := hb2.size
    simp at z2
    replace hb2 := below_two (((Below.refl _ w1).alloc (Nat.le_refl _) _).alloc (by simp) _) hb2
    replace k0 := kept hb2 k0 (by omega)
    replace k1 := kept hb2 k1 (by omega)
    replace k2 := kept hb2 k2 (by omega)
    replace k3 := kept hb2 k3 (by omega)
    have lt2 : w.heap.size < w2.heap.size := by omega
    go_wp2
    go_ret
    exact ⟨ret_bool (by simp), below_two (below_two ((Below.refl _ _).alloc (Nat.le_refl _) _) hb1) hb2⟩
end Go.Proofs.Ytgmkmlfppblpfaa

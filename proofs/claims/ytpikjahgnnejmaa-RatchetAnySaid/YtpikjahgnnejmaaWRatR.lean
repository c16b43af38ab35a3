/- RatchetRight. -/
import Derived.Test.YtpikjahgnnejmaaWRatS
import Derived.BigQuiet
namespace Go.Proofs.Ytpikjahgnnejmaa
open Go.RowKit Go.Maps
set_option linter.unusedVariables false
set_option linter.unusedSimpArgs false
theorem in_alloc {W : World} {a : Addr} {x : Value} (h : W.cell? a = some x) (o : Obj) : (W.alloc o).cell? a = some x := (((Below.refl _ W).alloc (Nat.le_refl _) o).cell (p := a) (World.block_lt_of_cell? _ _ h)).trans h
theorem s_kept {W w3 : World} {cs : Array Value} {t : TypeId} {o : Obj} {v : Value} (hg : ((W.alloc (.cells cs t)).alloc o).grownBy w3 v.ownBlock) (hv : v.ownBlock ≠ some W.heap.size) : w3.heap[W.heap.size]? = some (.cells cs t) := by
  rw [hg.block _ (by simp; omega) (fun e => hv e.symm), Below.heap_alloc _ _ _ (by simp), World.alloc_heap_new]
set_option maxRecDepth 20000 in
set_option maxHeartbeats 6400000 in
theorem WRatchetRight (a0 : Int) (a1 : Int) (a2 : Option Addr) (len2 cap2 : Nat) (z2 : List Po) (w : World) (w0 : (Lit.int .i64 a0).wf = true) (w1 : (Lit.int .i64 a1).wf = true) (w2 : IsPosts w a2 len2 cap2 z2) :
    Calls Try.prog 11 #[.int .i64 a0, .int .i64 a1, .slice a2 len2 cap2] w fun e w' => e = .returned (.bool true) ∧ Below w.heap.size w w' := by
  have r0 := wf64 w0
  have r1 := wf64 w1
  clear w0 w1
  by_cases hb : a0 < 0 ∨ 65536 ≤ a0 ∨ a1 < 0 ∨ 100 < a1
  · have HP := Lib.hid (fun W => ratchet_Play_bad a0 a1 a2 len2 cap2 W r0 hb)
    clear hb w2
    go_enter Try.func11, Try.ntmps11
    go_wp2_with fail
    refine (HP.out _).mono ?_
    rintro e w' ⟨rfl, rfl⟩
    go_wp2
    refine bodyPost_ret (v := .bool true) ?_ rfl ?_
    · go_simp; first | rfl | kernel_rfl
    · exact ⟨rfl, Below.refl _ _⟩
  · obtain ⟨k0, rfl⟩ := Int.eq_ofNat_of_zero_le (show 0 ≤ a0 by omega)
    obtain ⟨most, rfl⟩ := Int.eq_ofNat_of_zero_le (show 0 ≤ a1 by omega)
    have hk : k0 < 65536 := by omega
    have hm : most ≤ 100 := by omega
    clear hb r0 r1
    by_cases hl : 100 < len2
    · have HP := Lib.hid (fun W => ratchet_Play_long k0 most a2 len2 cap2 W hk hm hl)
      go_enter Try.func11, Try.ntmps11
      go_wp2_with fail
      refine (HP.out _).mono ?_
      rintro e w' ⟨rfl, rfl⟩
      go_wp2
      refine bodyPost_ret (v := .bool true) ?_ rfl ?_
      · go_simp; first | rfl | kernel_rfl
      · exact ⟨rfl, Below.refl _ _⟩
    · have hl2 : len2 ≤ 100 := by omega
      clear hl
      have HP := Lib.hid (ratchet_Play k0 most a2 len2 cap2 z2 w hk hm w2 hl2)
      obtain ⟨hL, hl64, hrow, hfit⟩ := w2
      have HL := Lib.hid hL
      have HR := Lib.hid hrow
      have HF := Lib.hid hfit
      clear hL hrow hfit hl64
      obtain ⟨j0, ji, jz0, jz1, jz2⟩ := info_parts intR_info
      have ju : Try.prog.underlying 58 = some (.slice 3) := by kernel_rfl
      go_enter Try.func11, Try.ntmps11
      go_wp2_with fail
      refine HP.out.mono ?_
      rintro e w1 ⟨v, rfl, hbel, hown⟩
      obtain ⟨la, lc, rfl, hcells⟩ := outs_shape hown
      have HOW := Lib.hid hown
      rw [HL.out] at hcells ⊢
      clear hown HP
      go_wp2
      have HC := Lib.hid hcells
      clear hcells
      have HB := Lib.hid hbel
      have hpc0 : PC w1 [] [] (.slice none 0 0) (.slice none 0 0) w1 := ⟨Below.refl _ _, World.ownsRow_nil _ _ _ _, World.ownsRow_nil _ _ _ _, fun g e => by cases e⟩
      clear hbel
      go_loopw [9, 10, 40] (fun v1 v2 ix wr => ∃ (I : Nat) (S : RS) (C : List Nat), ix = .int .i64 (I : Int) ∧ I ≤ len2 ∧ Hid (S = stAt k0 most z2 I) ∧ Hid (RInv S I) ∧ Hid (Came S C) ∧ C.length ≤ I ∧ PC w1 S.sent C v1 v2 wr) (fun _ _ ix _ => len2 - (intOf ix).toNat)
      case atStart => exact ⟨0, rs0, [], rfl, Nat.zero_le _, Lib.hid rfl, Lib.hid RInv.init, Lib.hid (fun m h => by cases h), Nat.le_refl _, hpc0⟩
      case round =>
        obtain ⟨I, S, C, rfl, hI, HS, HV, HCm, hCl, hPC⟩ := hrel
        by_cases hlt : I < len2
        · obtain ⟨x, hx⟩ : ∃ x, z2[I]? = some x := ⟨_, List.getElem?_eq_getElem (by rw [HL.out]; exact hlt)⟩
          have hbw := hPC.bel
          obtain ⟨b, o, rfl, hc⟩ := ((HR.out.below HB.out (Nat.le_refl _)).below (hbw.mono (Nat.le_refl _)) (Nat.le_refl _)).shape (by rw [HL.out]; omega)
          obtain ⟨k1, k2, k3⟩ := hc I x hx
          obtain ⟨q1, q2, q3⟩ := HF.out x (List.mem_of_getElem? hx)
          unfold fits at q1 q2 q3
          have hcs : ∃ g, la = some ⟨g, 0, none⟩ ∧ wr.cell? ⟨g, I * 2, none⟩ = some (.int .i64 (stepR k0 most S x).1.1) ∧ wr.cell? ⟨g, I * 2 + 1, none⟩ = some (.int .i64 (stepR k0 most S x).1.2) := by
            rcases HC.out with h0 | ⟨g, e, hq⟩
            · omega
            · obtain ⟨p1, p2⟩ := hq I x hx
              rw [← HS.out] at p1 p2
              exact ⟨g, e, kept hbw p1 (World.block_lt_of_cell? _ _ p1), kept hbw p2 (World.block_lt_of_cell? _ _ p2)⟩
          obtain ⟨g, rfl, m1, m2⟩ := hcs
          have HN := Lib.hid (stAt_succ (k0 := k0) (most := most) hx)
          have HV2 := Lib.hid (HV.out.step (k0 := k0) (most := most) x)
          have hsl := HV.out.len
          have hcase := step_cases (k0 := k0) (most := most) x HV.out HCm.out
          rw [← HS.out] at HN
          obtain ⟨R, hR⟩ : ∃ R, R = stepR k0 most S x := ⟨_, rfl⟩
          rw [← hR] at HN HV2 hcase m1 m2
          obtain ⟨kd, ms, nn⟩ := x
          obtain ⟨⟨c, m⟩, S'⟩ := R
          simp only at k1 k2 k3 q1 q2 q3 m1 m2 HN HV2 hcase
          replace HN := Lib.hid HN.out.symm
          clear hc hx hR hbw
          rcases hcase with ⟨h1, h2, h3, h4, h5⟩ | ⟨h3, h4⟩ | ⟨h1, h2, h3, h4, h5, h6, h7, h8⟩
          · have b1 : (kd == 1) = true := by simpa using h1
            have b2 : (kd != 2) = true := by simp [h1]
            have bc : (c == 0) = true := by simpa using h2
            obtain ⟨N, rfl⟩ := Int.eq_ofNat_of_zero_le h4
            rw [Int.toNat_natCast] at h3
            have hsz := hPC.bel.size
            have HPC := Lib.hid (hPC.below ((Below.refl _ wr).alloc (Nat.le_refl _) (.cells #[.int .i64 kd, .int .i64 ms, .int .i64 (N : Int)] 60)))
            have m1' := in_alloc m1 (.cells #[.int .i64 kd, .int .i64 ms, .int .i64 (N : Int)] 60)
            have hfar := (own_far hPC.snt).1
            clear hPC h1 h2 h4 h5
            have H3 := Lib.hid h3
            clear h3
            go_wp2_with (at_builtin; refine stopHere ?_)
            refine ⟨?_, trivial⟩
            refine wpList_append_own_at _ rfl _ _ 58 rfl w1.heap.size 3 j0 (.int .i64 0) 1 8 ju ji jz0 jz1 jz2 rfl (by decide) _ _ _ rfl (HPC.out.snt.alloc _) ⟨_, 0, none⟩ 1 1 [.int .i64 ((N : Nat) : Int)] rfl rfl (cell_oneB _ _ _ _ (by first | rfl | simp)) (by simp [Value.oneCell']) (by unfold maxLen; omega) (by omega) (by simp; omega) ?_
            intro v3 w3 hown3 hgr3 hni3 hat3
            have HPC3 := Lib.hid (HPC.out.push1 hown3 hgr3 hat3)
            have s1 : w3.cell? ⟨wr.heap.size, 0, none⟩ = some (.int .i64 kd) := by
              simp only [World.cell?]
              rw [s_kept hgr3 hfar]
              rfl
            clear hown3 hgr3 hni3 hat3
            go_wp2_with fail
            go_roundw
            case rel => exact ⟨I + 1, S', C, by go_num, by omega, HN, HV2, Lib.hid (by rw [H3.out]; exact HCm.out), by omega, by rw [H3.out]; exact HPC3.out⟩
            case measure => simp [intOf]; omega
          · have HPC := Lib.hid (hPC.below ((Below.refl _ wr).alloc (Nat.le_refl _) (.cells #[.int .i64 kd, .int .i64 ms, .int .i64 nn] 60)))
            have H3 := Lib.hid h3
            have m1' := in_alloc m1 (.cells #[.int .i64 kd, .int .i64 ms, .int .i64 nn] 60)
            clear hPC h3
            rcases h4 with ⟨h1, h2⟩ | ⟨h1, h2⟩ | ⟨h1, h2⟩
            · have b1 : (kd == 1) = true := by simpa using h1
              have b2 : (kd != 2) = true := by simp [h1]
              have bc : (c == 0) = false := by simpa using h2
              clear h1 h2
              go_wp2_with fail
              go_roundw
              case rel => exact ⟨I + 1, S', C, by go_num, by omega, HN, HV2, Lib.hid (by rw [H3.out]; exact HCm.out), by omega, by rw [H3.out]; exact HPC.out⟩
              case measure => simp [intOf]; omega
            · have b1 : (kd == 1) = false := by simpa using h1
              have b2 : (kd != 2) = true := by simpa using h2
              clear h1 h2
              go_wp2_with fail
              go_roundw
              case rel => exact ⟨I + 1, S', C, by go_num, by omega, HN, HV2, Lib.hid (by rw [H3.out]; exact HCm.out), by omega, by rw [H3.out]; exact HPC.out⟩
              case measure => simp [intOf]; omega
            · have b1 : (kd == 1) = false := by simp [h1]
              have b2 : (kd != 2) = false := by simpa using h1
              have bc : (c != 0) = true := by simpa using h2
              clear h1 h2
              go_wp2_with fail
              go_roundw
              case rel => exact ⟨I + 1, S', C, by go_num, by omega, HN, HV2, Lib.hid (by rw [H3.out]; exact HCm.out), by omega, by rw [H3.out]; exact HPC.out⟩
              case measure => simp [intOf]; omega
          · have b1 : (kd == 1) = false := by simp [h1]
            have b2 : (kd != 2) = false := by simpa using h1
            have bc : (c != 0) = false := by simpa using h2
            obtain ⟨M, rfl⟩ := Int.eq_ofNat_of_zero_le h3
            rw [Int.toNat_natCast] at h5 h6 h8
            have hM : M < S.sent.length := by omega
            have hsz := hPC.bel.size
            obtain ⟨a6, c6, rfl, h9⟩ := own_shape1 hPC.snt
            obtain ⟨g6, rfl, m6⟩ := h9 M hM
            obtain ⟨a7, c7, rfl, h10⟩ := own_shape1 hPC.cm
            rw [← h5] at m6
            have i1 : ¬ (M : Int) < 0 := by omega
            have HPC := Lib.hid (hPC.below ((Below.refl _ wr).alloc (Nat.le_refl _) (.cells #[.int .i64 kd, .int .i64 (M : Int), .int .i64 nn] 60)))
            have HPCd := Lib.hid (fun n => HPC.out.below (below_drewN (Below.refl _ _) n))
            have H7 := Lib.hid h7
            have H8 := Lib.hid h8
            have H6 := Lib.hid h6
            have H10 := Lib.hid h10
            have m1' := in_alloc m1 (.cells #[.int .i64 kd, .int .i64 (M : Int), .int .i64 nn] 60)
            have m2' := in_alloc m2 (.cells #[.int .i64 kd, .int .i64 (M : Int), .int .i64 nn] 60)
            have m6' := in_alloc m6 (.cells #[.int .i64 kd, .int .i64 (M : Int), .int .i64 nn] 60)
            have hfar := (own_far hPC.cm).1
            clear hPC h1 h2 h5 h6 h7 h8 h9 h10
            go_wp2_with fail
            go_quiet (fail)
            go_wp2_with fail
            go_loop [97] (fun j => ∃ J : Nat, j = .int .i64 (J : Int) ∧ J ≤ C.length) (fun j => C.length - (intOf j).toNat)
            case atStart => exact ⟨0, rfl, Nat.zero_le _⟩
            case round =>
              obtain ⟨J, rfl, hJ⟩ := hrel
              by_cases hJl : J < C.length
              · obtain ⟨g7, rfl, hc7⟩ := H10.out J hJl
                have hc8 := in_alloc hc7 (.cells #[.int .i64 kd, .int .i64 (M : Int), .int .i64 nn] 60)
                have hne : (((C.getD J 0 : Nat) : Int) == (M : Int)) = false := by
                  have h1 : C.getD J 0 ≠ M := fun e => H6.out (by rw [← e, List.getD_eq_getElem?_getD, List.getElem?_eq_getElem hJl]; exact List.getElem_mem hJl)
                  exact beq_eq_false_iff_ne.2 (by omega)
                obtain ⟨Y, hY⟩ : ∃ Y, Y = C.getD J 0 := ⟨_, rfl⟩
                rw [← hY] at hc7 hc8 hne
                clear hY
                go_wp2_with fail
                go_round
                case rel => exact ⟨J + 1, by go_num, by omega⟩
                case measure => simp [intOf]; omega
              · have hJe : J = C.length := by omega
                subst hJe
                go_wp2_with (at_builtin; refine stopHere ?_)
                refine ⟨?_, trivial⟩
                refine wpList_append_own_at _ rfl _ _ 58 rfl w1.heap.size 3 j0 (.int .i64 0) 1 8 ju ji jz0 jz1 jz2 rfl (by decide) _ _ _ rfl ((HPCd.out _).cm.alloc _) ⟨_, 0, none⟩ 1 1 [.int .i64 ((M : Nat) : Int)] rfl rfl (cell_oneB _ _ _ _ (by first | rfl | simp)) (by simp [Value.oneCell']) (by unfold maxLen; omega) (by omega) (by simp; omega) ?_
                intro v3 w3 hown3 hgr3 hni3 hat3
                have HPC3 := Lib.hid ((HPCd.out _).push2 hown3 hgr3 hat3)
                clear hown3 hgr3 hni3 hat3
                go_wp2_with fail
                go_roundw
                case rel => exact ⟨I + 1, S', C ++ [M], by go_num, by omega, HN, HV2, H8, by simp; omega, by rw [H7.out]; exact HPC3.out⟩
                case measure => simp [intOf]; omega
        · have e1 : I = len2 := by omega
          subst e1
          have e4 := HB.out.trans (hPC.bel.mono HB.out.size)
          clear HS HV HCm HR HF HC HOW
          go_wp2
          refine bodyPost_ret (v := .bool true) ?_ rfl ?_
          · go_simp; first | rfl | kernel_rfl
          · exact ⟨rfl, e4⟩
end Go.Proofs.Ytpikjahgnnejmaa

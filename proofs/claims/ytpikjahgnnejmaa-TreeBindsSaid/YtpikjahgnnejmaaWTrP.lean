/- The walk of TreeProves. -/
import Derived.Test.YtpikjahgnnejmaaTrC
import Derived.Test.YtpikjahgnnejmaaTrN
namespace Go.Proofs.Ytpikjahgnnejmaa
open Go.RowKit
set_option linter.unusedVariables false
set_option linter.unusedSimpArgs false
theorem climb_len : ∀ (f : Nat) (row : List Nat) (i : Nat) (acc : List Nat), (climb f row i acc).2.length ≤ acc.length + f
  | 0, row, i, acc => Nat.le_refl _
  | f + 1, row, i, acc => by
    show (if row.length ≤ 1 then _ else _ : Nat × List Nat).2.length ≤ _
    by_cases h : row.length ≤ 1
    · rw [if_pos h]; show acc.length ≤ _; omega
    · rw [if_neg h]
      have := climb_len f (upL row) (i / 2) (if (i ^^^ 1) < row.length then acc ++ [row.getD (i ^^^ 1) 0] else acc)
      split at this
      · rename_i h2; rw [if_pos h2]; simp at this ⊢; omega
      · rename_i h2; rw [if_neg h2]; omega
theorem leafs_lt (z : List (List Nat)) : ∀ x ∈ z.map leafS, x < 65536 := by
  intro y hy
  obtain ⟨x, _, rfl⟩ := List.mem_map.1 hy
  exact sumN_lt _
theorem proof_lt (z : List (List Nat)) (i : Nat) : ∀ x ∈ proofN z i, x < 65536 := (climb_lt 64 (z.map leafS) i [] (leafs_lt z) (by simp)).2
theorem root_lt (z : List (List Nat)) : rootN z < 65536 := (climb_lt 64 (z.map leafS) 0 [] (leafs_lt z) (by simp)).1
theorem proof_len (z : List (List Nat)) (i : Nat) : (proofN z i).length ≤ 64 := by
  have := climb_len 64 (z.map leafS) i []
  simpa [proofN] using this
/-- a leaf's own proof leads to the root -/
theorem own_texts {z : List (List Nat)} {i : Nat} {xs : List Nat} (hz : z.length ≤ 64) (hx : z[i]? = some xs) : ∃ l, txO z.length i xs (proofN z i) = some l ∧ lastSum 0 (some (0 :: xs) :: l) = rootN z := by
  have hi : i < z.length := (List.getElem?_eq_some_iff.1 hx).1
  obtain ⟨l, h1, h2⟩ := prove_law 64 (z.map leafS) i (by simp; omega) (by simpa using hi)
  have hg : (z.map leafS).getD i 0 = leafS xs := by rw [List.getD_eq_getElem?_getD, List.getElem?_map, hx]; rfl
  rw [hg, List.length_map] at h1
  rw [hg] at h2
  refine ⟨l, ?_, ?_⟩
  · unfold txO
    rw [if_neg]
    · exact h1
    · rw [Bool.not_eq_true, List.any_eq_false]
      intro x hx'
      have := proof_lt z i x hx'
      simpa using this
  · show lastSum (sumN (0 :: xs)) l = rootN z
    have h3 : (climb 64 (z.map leafS) i []).1 = rootN z := by
      unfold rootN
      rw [← runS_root stpP 64 (z.map leafS) (i, []) i [], runS_root stpP 64 (z.map leafS) (i, []) 0 []]
    rw [← h3, ← h2]; rfl
theorem own_ckB {z : List (List Nat)} {i : Nat} {xs : List Nat} (hz : z.length ≤ 64) (hx : z[i]? = some xs) (root : Int) : ckB z.length i xs (proofN z i) root = (((rootN z : Nat) : Int) == root) := by
  obtain ⟨l, h1, h2⟩ := own_texts hz hx
  unfold ckB
  rw [h1]
  show (((lastSum 0 (some (0 :: xs) :: l) : Nat) : Int) == root) = _
  rw [h2]
set_option maxRecDepth 100000 in
set_option maxHeartbeats 3200000 in
theorem WTreeProves (a0 : Option Addr) (len0 cap0 : Nat) (z0 : List (List Nat)) (a1 : Int) (a2 : Int) (w : World) (w0 : IsMatB w a0 len0 cap0 z0) (w1 : (Lit.int .i64 a1).wf = true) (w2 : (Lit.int .u32 a2).wf = true) :
    Calls Try.prog 9 #[.slice a0 len0 cap0, .int .i64 a1, .int .u32 a2] w fun e w' => e = .returned (.bool true) ∧ Below w.heap.size w w' := by
  have HRo := tree_Root a0 len0 cap0 z0 w w0
  have HLC := Lib.hid fun W hb => ref_LeafsCheck a0 len0 cap0 z0 W (matB_below w0 hb)
  by_cases hbad : leafsE z0 ≠ 0 ∨ a1 < 0 ∨ (len0 : Int) ≤ a1
  · have HPr := Lib.hid fun W hb => tree_Prove_bad a0 len0 cap0 z0 a1 W (matB_below w0 hb) hbad
    obtain ⟨E, hE⟩ : ∃ E, leafsE z0 = E := ⟨_, rfl⟩
    rw [hE] at HRo HLC hbad
    obtain ⟨ro, hro⟩ : ∃ ro, (if E = 0 then rootN z0 else 0) = ro := ⟨_, rfl⟩
    rw [hro] at HRo
    replace HRo := Lib.hid HRo
    clear hE hro w0
    go_enter Try.func9, Try.ntmps9
    go_wp2_with fail
    refine HRo.out.mono ?_
    rintro e wa ⟨rfl, hb1⟩
    have HC := Lib.hid (HPr.out wa hb1)
    have HB1 := Lib.hid hb1
    clear hb1
    go_wp2_with fail
    refine HC.out.mono ?_
    rintro e wb ⟨⟨t, ht, rfl⟩, hb2⟩
    have HB2 := Lib.hid (below_two HB1.out hb2)
    have HL := Lib.hid (HLC.out wb HB2.out)
    have t1 : (t != 0) = true := by simpa using ht
    have t2 : (t == 0) = false := by simpa using ht
    clear hb2 ht
    by_cases h0 : E = 0
    · subst h0
      by_cases h1 : a1 < 0
      · have d1 : decide (a1 < 0) = true := decide_eq_true h1
        go_wp2_with fail
        refine HL.out.mono ?_
        rintro e wc ⟨rfl, rfl⟩
        have hbb := HB2.out
        go_wp2
        go_ret
        exact ⟨rfl, hbb⟩
      · have h2 : (len0 : Int) ≤ a1 := by omega
        have d1 : decide (a1 < 0) = false := decide_eq_false h1
        have d2 : decide ((len0 : Int) ≤ a1) = true := decide_eq_true h2
        clear hbad h1
        go_wp2_with fail
        refine HL.out.mono ?_
        rintro e wc ⟨rfl, rfl⟩
        have hbb := HB2.out
        go_wp2
        go_ret
        exact ⟨rfl, hbb⟩
    · have e1 : ((E : Int) != 0) = true := by simp; omega
      have e2 : ((E : Int) == 0) = false := by simp; omega
      clear hbad
      go_wp2_with fail
      refine HL.out.mono ?_
      rintro e wc ⟨rfl, rfl⟩
      have hbb := HB2.out
      go_wp2
      go_ret
      exact ⟨rfl, hbb⟩
  · have hE : leafsE z0 = 0 := by omega
    obtain ⟨i, rfl⟩ := Int.eq_ofNat_of_zero_le (show 0 ≤ a1 by omega)
    have hi : i < len0 := by omega
    obtain ⟨l1, l2, l3⟩ := leafsE_len hE
    obtain ⟨hL, hl, ⟨R, hR⟩, hz⟩ := w0
    have hw0 : IsMatB w a0 len0 cap0 z0 := ⟨hL, hl, ⟨R, hR⟩, hz⟩
    have HPr := Lib.hid fun W hb => tree_Prove a0 len0 cap0 i z0 W (matB_below hw0 hb) hE hi
    rw [hE, if_pos rfl] at HRo
    rw [hE] at HLC
    obtain ⟨xs, hx⟩ : ∃ xs, z0[i]? = some xs := ⟨_, List.getElem?_eq_getElem (by omega)⟩
    have hxs := hz xs (List.mem_of_getElem? hx)
    have hshort : xs.length < 4096 := by
      have := List.any_eq_false.1 l3 xs (List.mem_of_getElem? hx)
      simp [longB] at this
      omega
    have HCK := Lib.hid fun (root : Int) W b d (hb : Below w.heap.size w W) (h2 : RowK .u32 W b (nK (proofN z0 i))) (h3 : (proofN z0 i).length ≤ d) (h4 : d ≤ maxLen) =>
      tree_Check root len0 i (R i).1 b (R i).2 d xs (proofN z0 i) W ((hR.row i xs hx).below hb (Nat.le_refl _)) h2 (by omega) (by omega) hi hshort hxs.2 (proof_len z0 i) (fun x h => by have := proof_lt z0 i x h; omega) h3 h4
    have hck : ∀ root : Int, ckB len0 i xs (proofN z0 i) root = (((rootN z0 : Nat) : Int) == root) := fun root => by rw [← hL]; exact own_ckB l2 hx root
    simp only [hck] at HCK
    obtain ⟨b0, o0, rfl, hcell⟩ := hR.shape (by omega)
    have kx := hcell i xs hx
    obtain ⟨XL, hXL⟩ : ∃ k, xs.length = k := ⟨_, rfl⟩
    rw [hXL] at HCK kx
    obtain ⟨ps, hps⟩ : ∃ ps, proofN z0 i = ps := ⟨_, rfl⟩
    rw [hps] at HCK HPr
    obtain ⟨ro, hro⟩ : ∃ ro, rootN z0 = ro := ⟨_, rfl⟩
    rw [hro] at HCK HRo
    replace HRo := Lib.hid HRo
    obtain ⟨a, ha⟩ : ∃ a, (R i).1 = a := ⟨_, rfl⟩
    obtain ⟨c, hc⟩ : ∃ c, (R i).2 = c := ⟨_, rfl⟩
    rw [ha, hc] at HCK kx
    have hb0 : b0 < w.heap.size := World.block_lt_of_cell? w _ kx
    have d1 : decide ((i : Int) < 0) = false := decide_eq_false (by omega)
    have d2 : decide ((len0 : Int) ≤ (i : Int)) = false := decide_eq_false (by omega)
    have d3 : (i : Int) < len0 := by omega
    clear hbad hE l1 l2 l3 hL hl hR hz hw0 hx hxs hshort hck hcell hXL hps hro ha hc w1
    go_enter Try.func9, Try.ntmps9
    go_wp2_with fail
    refine HRo.out.mono ?_
    rintro e wa ⟨rfl, hb1⟩
    have HC := Lib.hid (HPr.out wa hb1)
    have HB1 := Lib.hid hb1
    clear hb1
    go_wp2_with fail
    refine HC.out.mono ?_
    rintro e wb ⟨⟨v, rfl, hown⟩, hb2⟩
    have hbb := below_two HB1.out hb2
    obtain ⟨ap, cp, rfl, hrow, hcp, hcp2⟩ := own_rowK hown
    have HRW := Lib.hid hrow
    have HCP := Lib.hid hcp
    have HCP2 := Lib.hid hcp2
    have HB2 := Lib.hid hbb
    have HL := Lib.hid (HLC.out wb hbb)
    have kx2 := kept hbb kx hb0
    have HCA := Lib.hid (HCK.out ro wb ap cp hbb hrow hcp hcp2)
    obtain ⟨PL, hPL⟩ : ∃ k, ps.length = k := ⟨_, rfl⟩
    have HPL := Lib.hid hPL
    rw [hPL] at HCA
    rw [hPL]
    clear hown hrow hcp hcp2 hb2 hbb hPL
    go_wp2_with fail
    refine HL.out.mono ?_
    rintro e wc ⟨rfl, rfl⟩
    go_wp2_with fail
    refine HCA.out.mono ?_
    rintro e wd ⟨rfl, hb3⟩
    have hbd := below_two HB2.out hb3
    have kx3 := kept hbd kx hb0
    have HCB := Lib.hid (HCK.out a2 wd ap cp hbd (HRW.out.below hb3 (Nat.le_refl _)) HCP.out HCP2.out)
    rw [HPL.out] at HCB
    have HBD := Lib.hid hbd
    have e1 : ((ro : Int) == (ro : Int)) = true := by simp
    rw [e1]
    clear hb3 hbd kx2
    go_wp2_with fail
    refine HCB.out.mono ?_
    rintro e we ⟨rfl, hb4⟩
    have hbe := below_two HBD.out hb4
    clear hb4 kx kx3
    by_cases h : a2 = (ro : Int)
    · subst h
      go_wp2
      go_ret
      exact ⟨rfl, hbe⟩
    · have f1 : (((ro : Nat) : Int) == a2) = false := by simpa using fun e => h e.symm
      have f2 : (a2 == ((ro : Nat) : Int)) = false := by simpa using h
      have f3 : ¬ ((ro : Nat) : Int) = a2 := fun e => h e.symm
      go_wp2
      go_ret
      exact ⟨rfl, hbe⟩
end Go.Proofs.Ytpikjahgnnejmaa

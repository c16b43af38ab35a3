/- The walk of TreeBinds. -/
import Derived.Test.YtpikjahgnnejmaaWTrP
import Derived.Test.YtpikjahgnnejmaaTrK
namespace Go.Proofs.Ytpikjahgnnejmaa
open Go.RowKit
set_option linter.unusedVariables false
set_option linter.unusedSimpArgs false
theorem textsL_pairs : ∀ (f n i h : Nat) (p : List Nat) (l : List (Option (List Nat))), textsL f n i h p = some l → ∀ t, some t ∈ l → ∃ a b, t = pairN a b
  | 0, n, i, h, p, l, e, t, ht => by
    unfold textsL at e
    split at e
    · cases e; cases ht
    · cases e
  | f + 1, n, i, h, p, l, e, t, ht => by
    unfold textsL at e
    by_cases h1 : n ≤ 1
    · rw [if_pos h1] at e
      split at e
      · cases e; cases ht
      · cases e
    · rw [if_neg h1] at e
      by_cases h2 : n ≤ (i ^^^ 1)
      · rw [if_pos h2] at e
        obtain ⟨l', q1, rfl⟩ := Option.map_eq_some_iff.1 e
        rcases List.mem_cons.1 ht with h | h
        · cases h
        · exact textsL_pairs f _ _ _ p l' q1 t h
      · rw [if_neg h2] at e
        cases p with
        | nil => cases e
        | cons a p =>
          simp only at e
          obtain ⟨l', q1, rfl⟩ := Option.map_eq_some_iff.1 e
          rcases List.mem_cons.1 ht with h | h
          · cases h
            split
            · exact ⟨_, _, rfl⟩
            · exact ⟨_, _, rfl⟩
          · exact textsL_pairs f _ _ _ p l' q1 t h
theorem pairN_bytes (a b : Nat) : ∀ x ∈ pairN a b, x < 256 := by
  intro x hx
  unfold pairN at hx
  simp at hx
  omega
theorem clashR_bytes {n i : Nat} {xs ps ys qs x y : List Nat} (h : clashR n i xs ps ys qs = some (x, y)) (h1 : ∀ t ∈ xs, t < 256) (h2 : ∀ t ∈ ys, t < 256) : (∀ t ∈ x, t < 256) ∧ ∀ t ∈ y, t < 256 := by
  unfold clashR at h
  split at h
  · rename_i l m e1 e2
    split at h
    · obtain ⟨m1, m2⟩ := alike_mem _ _ x y h
      constructor
      · rcases List.mem_cons.1 m1 with h | h
        · cases h
          intro t ht
          rcases List.mem_cons.1 ht with rfl | ht
          · omega
          · exact h1 t ht
        · obtain ⟨a, b, rfl⟩ := textsL_pairs _ _ _ _ _ _ (txO_texts e1) x h
          exact pairN_bytes a b
      · rcases List.mem_cons.1 m2 with h | h
        · cases h
          intro t ht
          rcases List.mem_cons.1 ht with rfl | ht
          · omega
          · exact h2 t ht
        · obtain ⟨a, b, rfl⟩ := textsL_pairs _ _ _ _ _ _ (txO_texts e2) y h
          exact pairN_bytes a b
    · cases h
  · cases h
theorem clash_some {z : List (List Nat)} {i : Nat} {xs ys qs : List Nat} (hz : z.length ≤ 64) (hx : z[i]? = some xs) (hne : xs ≠ ys) (hck : ckB z.length i ys qs ((rootN z : Nat) : Int) = true) :
    ∃ x y, clashR z.length i xs (proofN z i) ys qs = some (x, y) ∧ x ≠ y ∧ sumN x = sumN y := by
  obtain ⟨l, h1, h2⟩ := own_texts hz hx
  unfold ckB at hck
  split at hck
  · cases hck
  · rename_i m hm
    have h3 : lastSum 0 (some (0 :: ys) :: m) = rootN z := by
      have h9 := of_decide_eq_true hck
      exact Int.ofNat.inj h9
    unfold clashR
    rw [h1, hm]
    show ∃ x y, (if lastSum 0 (some (0 :: xs) :: l) = lastSum 0 (some (0 :: ys) :: m) ∧ xs ≠ ys then _ else _) = some (x, y) ∧ _
    rw [if_pos ⟨h2.trans h3.symm, hne⟩]
    exact binds_top (proof_lt z i) (txO_small hm) (fun e => hne (List.cons.inj e).2) (txO_texts h1) (txO_texts hm) (h2.trans h3.symm)
theorem clash_none {z : List (List Nat)} {i : Nat} {xs ys qs : List Nat} (hz : z.length ≤ 64) (hx : z[i]? = some xs) (h : ckB z.length i ys qs ((rootN z : Nat) : Int) = false ∨ xs = ys) :
    clashR z.length i xs (proofN z i) ys qs = none := by
  obtain ⟨l, h1, h2⟩ := own_texts hz hx
  unfold clashR
  rw [h1]
  cases hm : txO z.length i ys qs with
  | none => rfl
  | some m =>
    show (if lastSum 0 (some (0 :: xs) :: l) = lastSum 0 (some (0 :: ys) :: m) ∧ xs ≠ ys then _ else _) = none
    rw [if_neg]
    rintro ⟨h3, h4⟩
    rcases h with h | h
    · unfold ckB at h
      rw [hm] at h
      have h5 : lastSum 0 (some (0 :: ys) :: m) ≠ rootN z := fun e => of_decide_eq_false h (congrArg Int.ofNat e)
      exact h5 (h3.symm.trans h2)
    · exact h4 h
theorem IsRow.nats {W : World} {a : Option Addr} {len cap : Nat} {zs : List Int} (h : IsRow .u32 W a len cap zs) : ∃ qs : List Nat, qs.length = len ∧ RowK .u32 W a (nK qs) ∧ (∀ x ∈ qs, x ≤ 4294967295) ∧ len ≤ cap ∧ cap ≤ maxLen := by
  have hc : len ≤ cap ∧ cap ≤ maxLen := by
    rcases h with ⟨rfl, rfl, rfl, rfl⟩ | ⟨ad, rfl, hl, hm, _⟩
    · exact ⟨Nat.le_refl _, by unfold maxLen; omega⟩
    · exact ⟨hl, hm⟩
  obtain ⟨xs, h1, h2, h3⟩ := RowK.of h
  have hb : ∀ x ∈ xs, 0 ≤ x ∧ x ≤ 4294967295 := fun x hx => by
    simpa [Lit.wf, IntKind.min, IntKind.max, IntKind.signed, go_sem] using h3 x hx
  refine ⟨xs.map Int.toNat, by simp [h1], ?_, fun x hx => ?_, hc⟩
  · have : nK (xs.map Int.toNat) = xs := by
      unfold nK
      rw [List.map_map]
      refine (List.map_congr_left (g := id) fun x hx => ?_).trans (List.map_id _)
      have := hb x hx
      show ((x.toNat : Nat) : Int) = x
      omega
    rw [this]; exact h2
  · obtain ⟨y, hy, rfl⟩ := List.mem_map.1 hx
    have := hb y hy
    omega
set_option maxRecDepth 100000 in
set_option maxHeartbeats 12800000 in
theorem WTreeBinds (a0 : Option Addr) (len0 cap0 : Nat) (z0 : List (List Nat)) (a1 : Int) (a2 : Option Addr) (len2 cap2 : Nat) (z2 : List Int) (a3 : Option Addr) (len3 cap3 : Nat) (z3 : List Int) (w : World) (w0 : IsMatB w a0 len0 cap0 z0) (w1 : (Lit.int .i64 a1).wf = true) (w2 : IsRow .u8 w a2 len2 cap2 z2) (w3 : IsRow .u32 w a3 len3 cap3 z3) :
    Calls Try.prog 10 #[.slice a0 len0 cap0, .int .i64 a1, .slice a2 len2 cap2, .slice a3 len3 cap3] w fun e w' => e = .returned (.bool true) ∧ Below w.heap.size w w' := by
  obtain ⟨ys, hys, hyr, hyb, hym⟩ := w2.bytes
  obtain ⟨qs, hqs, hqr, hqb, hqd, hqm⟩ := w3.nats
  clear w2 w3
  have HRo := tree_Root a0 len0 cap0 z0 w w0
  have HLC := Lib.hid fun W hb => ref_LeafsCheck a0 len0 cap0 z0 W (matB_below w0 hb)
  by_cases hbad : leafsE z0 ≠ 0 ∨ a1 < 0 ∨ (len0 : Int) ≤ a1
  · have HPr := Lib.hid fun W hb => tree_Prove_bad a0 len0 cap0 z0 a1 W (matB_below w0 hb) hbad
    obtain ⟨E, hE⟩ : ∃ E, leafsE z0 = E := ⟨_, rfl⟩
    rw [hE] at HRo HLC hbad
    obtain ⟨ro, hro⟩ : ∃ ro, (if E = 0 then rootN z0 else 0) = ro := ⟨_, rfl⟩
    rw [hro] at HRo
    replace HRo := Lib.hid HRo
    clear hE hro w0
    go_enter Try.func10, Try.ntmps10
    go_wp2_with fail
    refine HRo.out.mono ?_
    rintro e wa ⟨rfl, hb1⟩
    have HC := Lib.hid (HPr.out wa hb1)
    have HB1 := Lib.hid hb1
    clear hb1
    go_wp2_with fail
    refine HC.out.mono ?_
    rintro e wb ⟨⟨t, ht, rfl⟩, hb2⟩
    have HB2 := Lib.hid (below_two HB1.out hb2)
    have HL := Lib.hid (HLC.out wb HB2.out)
    have t1 : (t != 0) = true := by simpa using ht
    have t2 : (t == 0) = false := by simpa using ht
    clear hb2 ht
    by_cases h0 : E = 0
    · subst h0
      by_cases h1 : a1 < 0
      · have d1 : decide (a1 < 0) = true := decide_eq_true h1
        go_wp2_with fail
        refine HL.out.mono ?_
        rintro e wc ⟨rfl, rfl⟩
        have hbb := HB2.out
        go_wp2
        go_ret
        exact ⟨rfl, hbb⟩
      · have h2 : (len0 : Int) ≤ a1 := by omega
        have d1 : decide (a1 < 0) = false := decide_eq_false h1
        have d2 : decide ((len0 : Int) ≤ a1) = true := decide_eq_true h2
        clear hbad h1
        go_wp2_with fail
        refine HL.out.mono ?_
        rintro e wc ⟨rfl, rfl⟩
        have hbb := HB2.out
        go_wp2
        go_ret
        exact ⟨rfl, hbb⟩
    · have e1 : ((E : Int) != 0) = true := by simp; omega
      have e2 : ((E : Int) == 0) = false := by simp; omega
      clear hbad
      go_wp2_with fail
      refine HL.out.mono ?_
      rintro e wc ⟨rfl, rfl⟩
      have hbb := HB2.out
      go_wp2
      go_ret
      exact ⟨rfl, hbb⟩
  · have hE : leafsE z0 = 0 := by omega
    obtain ⟨i, rfl⟩ := Int.eq_ofNat_of_zero_le (show 0 ≤ a1 by omega)
    have hi : i < len0 := by omega
    obtain ⟨l1, l2, l3⟩ := leafsE_len hE
    obtain ⟨hL, hl, ⟨R, hR⟩, hz⟩ := w0
    have hw0 : IsMatB w a0 len0 cap0 z0 := ⟨hL, hl, ⟨R, hR⟩, hz⟩
    have HPr := Lib.hid fun W hb => tree_Prove a0 len0 cap0 i z0 W (matB_below hw0 hb) hE hi
    rw [hE, if_pos rfl] at HRo
    rw [hE] at HLC
    obtain ⟨xs, hx⟩ : ∃ xs, z0[i]? = some xs := ⟨_, List.getElem?_eq_getElem (by omega)⟩
    have hxs := hz xs (List.mem_of_getElem? hx)
    have hshort : xs.length < 4096 := by
      have := List.any_eq_false.1 l3 xs (List.mem_of_getElem? hx)
      simp [longB] at this
      omega
    have HCK := Lib.hid fun (root : Int) W b d (hb : Below w.heap.size w W) (h2 : RowK .u32 W b (nK (proofN z0 i))) (h3 : (proofN z0 i).length ≤ d) (h4 : d ≤ maxLen) =>
      tree_Check root len0 i (R i).1 b (R i).2 d xs (proofN z0 i) W ((hR.row i xs hx).below hb (Nat.le_refl _)) h2 (by omega) (by omega) hi hshort hxs.2 (proof_len z0 i) (fun x h => by have := proof_lt z0 i x h; omega) h3 h4
    have hck : ∀ root : Int, ckB len0 i xs (proofN z0 i) root = (((rootN z0 : Nat) : Int) == root) := fun root => by rw [← hL]; exact own_ckB l2 hx root
    simp only [hck] at HCK
    obtain ⟨b0, o0, rfl, hcell⟩ := hR.shape (by omega)
    have kx := hcell i xs hx
    obtain ⟨XL, hXL⟩ : ∃ k, xs.length = k := ⟨_, rfl⟩
    rw [hXL] at HCK kx
    obtain ⟨ps, hps⟩ : ∃ ps, proofN z0 i = ps := ⟨_, rfl⟩
    rw [hps] at HCK HPr
    obtain ⟨ro, hro⟩ : ∃ ro, rootN z0 = ro := ⟨_, rfl⟩
    rw [hro] at HCK HRo
    replace HRo := Lib.hid HRo
    obtain ⟨a, ha⟩ : ∃ a, (R i).1 = a := ⟨_, rfl⟩
    obtain ⟨c, hc⟩ : ∃ c, (R i).2 = c := ⟨_, rfl⟩
    rw [ha, hc] at HCK kx
    have hb0 : b0 < w.heap.size := World.block_lt_of_cell? w _ kx
    have d1 : decide ((i : Int) < 0) = false := decide_eq_false (by omega)
    have d2 : decide ((len0 : Int) ≤ (i : Int)) = false := decide_eq_false (by omega)
    have d3 : (i : Int) < len0 := by omega
    have hm1 : len2 ≤ 9223372036854775807 := by unfold maxLen at hym; omega
    have hm2 : len3 ≤ 9223372036854775807 := by unfold maxLen at hqm; omega
    have hown0 : placeE (len0 : Int) (i : Int) XL ps.length = 0 := placeE_ok (by omega) (by omega) hi (by omega) (by rw [← hps]; exact proof_len z0 i)
    have hro2 : ro < 65536 := by rw [← hro]; exact root_lt z0
    have HCLB : placeE (len0 : Int) (i : Int) len2 len3 ≠ 0 → Hid (∀ W b d, Calls Try.prog 25 #[.int .i64 (len0 : Nat), .int .i64 (i : Nat), .slice a XL c, .slice b ps.length d, .slice a2 len2 cap2, .slice a3 len3 cap3] W fun e w' => ClPost none W e w') := fun hE' => Lib.hid fun W b d =>
      tree_Clash_bad len0 i a b a2 a3 c d cap2 cap3 XL ps.length len2 len3 W (by omega) (by omega) (by omega) (by rw [← hps]; have := proof_len z0 i; omega) hm1 hm2 hown0 hE'
    have HCLG : len2 < 4096 → len3 ≤ 64 → Hid (∀ W b d (hb : Below w.heap.size w W) (h2 : RowK .u32 W b (nK ps)) (h3 : ps.length ≤ d) (h4 : d ≤ maxLen), Calls Try.prog 25 #[.int .i64 (len0 : Nat), .int .i64 (i : Nat), .slice a XL c, .slice b ps.length d, .slice a2 len2 cap2, .slice a3 len3 cap3] W fun e w' => ClPost (clashR len0 i xs ps ys qs) W e w') := fun g1 g2 => Lib.hid fun W b d hb h2 h3 h4 => by
      have := tree_Clash len0 i a b a2 a3 c d cap2 cap3 xs ps ys qs W (by rw [← ha, ← hc]; exact (hR.row i xs hx).below hb (Nat.le_refl _)) h2 (hyr.below hb (Nat.le_refl _)) (hqr.below hb (Nat.le_refl _)) (by omega) (by omega) hi hshort hxs.2 (by rw [← hps]; exact proof_len z0 i) (fun x h => by rw [← hps] at h; have := proof_lt z0 i x h; omega) h3 h4 (by omega) hyb (by omega) hqb (by omega) hqm
      rw [hXL, hys, hqs] at this
      exact this
    have HCKG : len2 < 4096 → len3 ≤ 64 → Hid (∀ W (hb : Below w.heap.size w W), Calls Try.prog 24 #[.int .u32 (ro : Nat), .int .i64 (len0 : Nat), .int .i64 (i : Nat), .slice a2 len2 cap2, .slice a3 len3 cap3] W fun e w' => e = .returned (.tuple #[.bool (ckB len0 i ys qs (ro : Nat)), .int .i64 0]) ∧ Below W.heap.size W w') := fun g1 g2 => Lib.hid fun W hb => by
      have := tree_Check (ro : Nat) len0 i a2 a3 cap2 cap3 ys qs W (hyr.below hb (Nat.le_refl _)) (hqr.below hb (Nat.le_refl _)) (by omega) (by omega) hi (by omega) hyb (by omega) hqb (by omega) hqm
      rw [hys, hqs] at this
      exact this
    have HCKB : placeE (len0 : Int) (i : Int) len2 len3 ≠ 0 → Hid (∀ W, Calls Try.prog 24 #[.int .u32 (ro : Nat), .int .i64 (len0 : Nat), .int .i64 (i : Nat), .slice a2 len2 cap2, .slice a3 len3 cap3] W fun e w' => (∃ t : Int, t ≠ 0 ∧ e = .returned (.tuple #[.bool false, .int .i64 t])) ∧ Below W.heap.size W w') := fun hE' => Lib.hid fun W =>
      tree_Check_bad (ro : Nat) len0 i a2 a3 cap2 cap3 len2 len3 W (by omega) (by omega) hm1 hm2 hE'
    have hplace : placeE (len0 : Int) (i : Int) len2 len3 = 0 → len2 < 4096 ∧ len3 ≤ 64 := fun h => by
      unfold placeE at h
      split at h
      · cases h
      · split at h
        · cases h
        · omega
    have HCSome : ckB len0 i ys qs (ro : Nat) = true → xs ≠ ys → Hid (∃ x y, clashR len0 i xs ps ys qs = some (x, y) ∧ x ≠ y ∧ sumN x = sumN y) := fun g1 g2 => Lib.hid (by
      have := clash_some (qs := qs) l2 hx g2 (by rw [hL, hro]; exact g1)
      rw [hL, hps] at this
      exact this)
    have HCNone : ckB len0 i ys qs (ro : Nat) = false ∨ xs = ys → clashR len0 i xs ps ys qs = none := fun g => by
      have := clash_none (qs := qs) l2 hx (by rw [hL, hro]; exact g)
      rw [hL, hps] at this
      exact this
    have HSH := Lib.hid fun (x y : List Nat) (h : clashR len0 i xs ps ys qs = some (x, y)) (g : len2 < 4096) => clashR_short h hshort (by omega)
    have HBY := Lib.hid fun (x y : List Nat) (h : clashR len0 i xs ps ys qs = some (x, y)) => clashR_bytes h hxs.2 hyb
    have HRB : len2 < 4096 → Hid (∀ W (hb : Below w.heap.size w W), Calls Try.prog 15 #[.slice a XL c, .slice a2 len2 cap2] W fun e w' => e = .returned (.bool (xs == ys)) ∧ Below W.heap.size W w') := fun g => Lib.hid fun W hb => by
      have := ref_Bytes a a2 c cap2 xs ys W (by rw [← ha, ← hc]; exact (hR.row i xs hx).below hb (Nat.le_refl _)) (hyr.below hb (Nat.le_refl _)) (by omega) (by omega) hxs.2 hyb
      rw [hXL, hys] at this
      exact this
    have HCB : ∀ v, Hid (clashR len0 i xs ps ys qs = v) → Hid (clashR len0 i xs ps ys qs = v) := fun _ h => h
    obtain ⟨CR, hCR⟩ : ∃ CR, clashR len0 i xs ps ys qs = CR := ⟨_, rfl⟩
    rw [hCR] at HCLG HCSome HCNone HSH HBY
    obtain ⟨K, hK⟩ : ∃ K, ckB len0 i ys qs (ro : Nat) = K := ⟨_, rfl⟩
    rw [hK] at HCKG HCSome HCNone
    obtain ⟨PE, hPE⟩ : ∃ q, placeE (len0 : Int) (i : Int) len2 len3 = q := ⟨_, rfl⟩
    rw [hPE] at HCLB HCKB hplace
    obtain ⟨QQ, hQQ⟩ : ∃ q, (xs == ys) = q := ⟨_, rfl⟩
    rw [hQQ] at HRB
    have hQ2 : (QQ = true → xs = ys) ∧ (QQ = false → xs ≠ ys) := by
      constructor
      · intro h; rw [h] at hQQ; simpa using hQQ
      · intro h; rw [h] at hQQ; simpa using hQQ
    clear hbad hE l1 l2 l3 hL hl hR hz hw0 hx hxs hshort hck hcell hXL hps hro ha hc w1 hym hqm hqd hqb hyb hys hqs hyr hqr hown0 hCR hK hPE hQQ HCB
    go_enter Try.func10, Try.ntmps10
    go_wp2_with fail
    refine HRo.out.mono ?_
    rintro e wa ⟨rfl, hb1⟩
    have HC := Lib.hid (HPr.out wa hb1)
    have HB1 := Lib.hid hb1
    clear hb1
    go_wp2_with fail
    refine HC.out.mono ?_
    rintro e wb ⟨⟨v, rfl, hown⟩, hb2⟩
    have hbb := below_two HB1.out hb2
    obtain ⟨ap, cp, rfl, hrow, hcp, hcp2⟩ := own_rowK hown
    have HRW := Lib.hid hrow
    have HCP := Lib.hid hcp
    have HCP2 := Lib.hid hcp2
    have HB2 := Lib.hid hbb
    have HL := Lib.hid (HLC.out wb hbb)
    have kx2 := kept hbb kx hb0
    obtain ⟨PL, hPL⟩ : ∃ k, ps.length = k := ⟨_, rfl⟩
    have HPL := Lib.hid hPL
    rw [hPL] at HCLB HCLG HCK
    rw [hPL]
    clear hown hrow hcp hcp2 hb2 hbb hPL HC
    have e1 : ((ro : Int) == (ro : Int)) = true := by simp
    by_cases hP0 : PE = 0
    · obtain ⟨g1, g2⟩ := hplace hP0
      have HK := HCKG g1 g2
      have HG := HCLG g1 g2
      have HR2 := HRB g1
      clear HCKG HCLG HRB HCKB HCLB hplace hP0
      go_wp2_with fail
      refine HL.out.mono ?_
      rintro e wc ⟨rfl, rfl⟩
      have HCA := Lib.hid (HK.out wb HB2.out)
      clear HL HK
      go_wp2_with fail
      refine HCA.out.mono ?_
      rintro e wd ⟨rfl, hb3⟩
      have hbd := below_two HB2.out hb3
      have kx3 := kept hbd kx hb0
      have HCB := Lib.hid (HG.out wd ap cp hbd (HRW.out.below hb3 (Nat.le_refl _)) (by rw [← HPL.out]; exact HCP.out) HCP2.out)
      have HRW3 := Lib.hid (HRW.out.below hb3 (Nat.le_refl _))
      have HBD := Lib.hid hbd
      clear hb3 hbd kx2 HCA HG
      go_wp2_with fail
      refine HCB.out.mono ?_
      rintro e we ⟨hcl, hb4⟩
      have hbe := below_two HBD.out hb4
      have kx4 := kept hbe kx hb0
      have HOC := Lib.hid (HCK.out (ro : Nat) we ap cp hbe (HRW3.out.below hb4 (Nat.le_refl _)) (by rw [← HPL.out]; exact HCP.out) HCP2.out)
      rw [e1] at HOC
      have HBE := Lib.hid hbe
      clear hb4 hbe kx3 HCB
      rcases hcl with ⟨hno, t, ht, rfl⟩ | ⟨x, y, ax, ay, cx, cy, hyes, rfl, hrx, hry⟩
      · have t1 : (t != 0) = true := by simpa using ht
        have t2 : (t == 0) = false := by simpa using ht
        have hKQ : K = false ∨ QQ = true := by
          cases hKK : K
          · exact .inl rfl
          · refine .inr ?_
            cases hQQ : QQ
            · obtain ⟨x, y, h, _⟩ := (HCSome hKK (hQ2.2 hQQ)).out
              rw [hno] at h; cases h
            · rfl
        clear HCSome HCNone HSH HBY hno ht hQ2
        go_wp2_with fail
        refine HOC.out.mono ?_
        rintro e wf ⟨rfl, hb5⟩
        have hbf := below_two HBE.out hb5
        have kx5 := kept hbf kx hb0
        have HRZ := Lib.hid (HR2.out wf hbf)
        have HBF := Lib.hid hbf
        clear hb5 hbf kx4 HOC HR2
        cases K
        · go_wp2_with fail
          go_ret
          exact ⟨rfl, HBF.out⟩
        · rcases hKQ with h | h
          · cases h
          · subst h
            go_wp2_with fail
            refine HRZ.out.mono ?_
            rintro e wg ⟨rfl, hb6⟩
            have hbg := below_two HBF.out hb6
            go_wp2_with fail
            go_ret
            exact ⟨rfl, hbg⟩
      · have hKQ : K = true ∧ QQ = false := by
          constructor
          · cases hKK : K
            · have := HCNone (.inl hKK); rw [hyes] at this; cases this
            · rfl
          · cases hQQ : QQ
            · rfl
            · have := HCNone (.inr (hQ2.1 hQQ)); rw [hyes] at this; cases this
        obtain ⟨rfl, rfl⟩ := hKQ
        have hsh := HSH.out x y hyes g1
        have hby := HBY.out x y hyes
        have hsm : x ≠ y ∧ sumN x = sumN y := by
          obtain ⟨x', y', h1, h2, h3⟩ := (HCSome rfl (hQ2.2 rfl)).out
          rw [hyes] at h1; cases h1
          exact ⟨h2, h3⟩
        have HS1 := Lib.hid fun W (hb : Below we.heap.size we W) => hash_Sum ax cx x W (hrx.below hb (Nat.le_refl _)) hsh.1 hby.1
        have HS2 := Lib.hid fun W (hb : Below we.heap.size we W) => hash_Sum ay cy y W (hry.below hb (Nat.le_refl _)) hsh.2 hby.2
        have HRB2 := Lib.hid fun W (hb : Below we.heap.size we W) => ref_Bytes ax ay cx cy x y W (hrx.below hb (Nat.le_refl _)) (hry.below hb (Nat.le_refl _)) (by omega) (by omega) hby.1 hby.2
        rw [show (x == y) = false by simpa using hsm.1] at HRB2
        rw [hsm.2] at HS1
        obtain ⟨lx, hlx⟩ : ∃ q, x.length = q := ⟨_, rfl⟩
        obtain ⟨ly, hly⟩ : ∃ q, y.length = q := ⟨_, rfl⟩
        obtain ⟨s, hs⟩ : ∃ q, sumN y = q := ⟨_, rfl⟩
        rw [hlx] at HS1 HRB2
        rw [hly] at HS2 HRB2
        rw [hs] at HS1 HS2
        rw [hlx, hly]
        have e2 : ((s : Int) == (s : Int)) = true := by simp
        clear HCSome HCNone HSH HBY hyes hsh hby hsm hlx hly hs hrx hry hQ2
        go_wp2_with fail
        refine HOC.out.mono ?_
        rintro e wf ⟨rfl, hb5⟩
        have hbf := below_two HBE.out hb5
        have kx5 := kept hbf kx hb0
        have HRZ := Lib.hid (HR2.out wf hbf)
        have HBF := Lib.hid hbf
        have HB5 := Lib.hid hb5
        clear hb5 hbf kx4 HOC HR2
        go_wp2_with fail
        refine HRZ.out.mono ?_
        rintro e wg ⟨rfl, hb6⟩
        have HBG := Lib.hid (below_two HBF.out hb6)
        have HB6 := Lib.hid (below_two HB5.out hb6)
        have HC1 := Lib.hid (HS1.out wg HB6.out)
        clear hb6 HRZ kx5
        go_wp2_with fail
        refine HC1.out.mono ?_
        rintro e wh ⟨rfl, hb7⟩
        have HBH := Lib.hid (below_two HBG.out hb7)
        have HB7 := Lib.hid (below_two HB6.out hb7)
        have HC2 := Lib.hid (HS2.out wh HB7.out)
        clear hb7 HC1
        go_wp2_with fail
        refine HC2.out.mono ?_
        rintro e wi ⟨rfl, hb8⟩
        have HBI := Lib.hid (below_two HBH.out hb8)
        have HB8 := Lib.hid (below_two HB7.out hb8)
        have HC3 := Lib.hid (HRB2.out wi HB8.out)
        clear hb8 HC2
        go_wp2_with fail
        refine HC3.out.mono ?_
        rintro e wj ⟨rfl, hb9⟩
        have hbj := below_two HBI.out hb9
        go_wp2_with fail
        go_ret
        exact ⟨rfl, hbj⟩
    · have HK := HCKB hP0
      have HG := HCLB hP0
      clear HCKG HCLG HRB HCKB HCLB hplace hP0 HCSome HCNone HSH HBY hQ2
      go_wp2_with fail
      refine HL.out.mono ?_
      rintro e wc ⟨rfl, rfl⟩
      have HCA := Lib.hid (HK.out wb)
      clear HL HK
      go_wp2_with fail
      refine HCA.out.mono ?_
      rintro e wd ⟨⟨t, ht, rfl⟩, hb3⟩
      have t1 : (t != 0) = true := by simpa using ht
      have t2 : (t == 0) = false := by simpa using ht
      have hbd := below_two HB2.out hb3
      have kx3 := kept hbd kx hb0
      have HCB := Lib.hid (HG.out wd ap cp)
      have HRW3 := Lib.hid (HRW.out.below hb3 (Nat.le_refl _))
      have HBD := Lib.hid hbd
      clear hb3 hbd kx2 HCA HG ht
      go_wp2_with fail
      refine HCB.out.mono ?_
      rintro e we ⟨hcl, hb4⟩
      have hbe := below_two HBD.out hb4
      have kx4 := kept hbe kx hb0
      have HOC := Lib.hid (HCK.out (ro : Nat) we ap cp hbe (HRW3.out.below hb4 (Nat.le_refl _)) (by rw [← HPL.out]; exact HCP.out) HCP2.out)
      rw [e1] at HOC
      have HBE := Lib.hid hbe
      clear hb4 hbe kx3 HCB
      rcases hcl with ⟨_, s, hs, rfl⟩ | ⟨x, y, ax, ay, cx, cy, hyes, _⟩
      · have s1 : (s != 0) = true := by simpa using hs
        have s2 : (s == 0) = false := by simpa using hs
        clear hs
        go_wp2_with fail
        refine HOC.out.mono ?_
        rintro e wf ⟨rfl, hb5⟩
        have hbf := below_two HBE.out hb5
        clear hb5 kx4 HOC
        go_wp2_with fail
        go_ret
        exact ⟨rfl, hbf⟩
      · cases hyes
end Go.Proofs.Ytpikjahgnnejmaa

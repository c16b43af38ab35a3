/- The walk of lockwrightkeep.FieldCyclic. -/
import Derived.Test.YtkkefbjmdbjbhaaFldZ
namespace Go.Proofs.Ytkkefbjmdbjbhaa
open Go.RowKit
set_option linter.unusedVariables false
set_option linter.unusedSimpArgs false
noncomputable def seenB (P : Nat) (f : List Int) (g K y : Nat) : Bool := (List.range' 1 K).any fun i => powF P f g i == y
theorem seenB_true {P : Nat} {f : List Int} {g K y : Nat} : seenB P f g K y = true ↔ ∃ i, 1 ≤ i ∧ i ≤ K ∧ powF P f g i = y := by
  unfold seenB
  rw [List.any_eq_true]
  constructor
  · rintro ⟨i, hi, e⟩
    rw [List.mem_range'_1] at hi
    exact ⟨i, by omega, by omega, by simpa using e⟩
  · rintro ⟨i, h1, h2, e⟩
    exact ⟨i, by rw [List.mem_range'_1]; omega, by simpa using e⟩
/-- what has been seen -/
noncomputable def seenV (P : Nat) (f : List Int) (g S K : Nat) : List Value := (List.range S).map fun y => .bool (seenB P f g K y)
theorem seenV_len (P : Nat) (f : List Int) (g S K : Nat) : (seenV P f g S K).length = S := by simp [seenV]
theorem seenV_get {P : Nat} {f : List Int} {g S K y : Nat} (h : y < S) : (seenV P f g S K)[y]? = some (.bool (seenB P f g K y)) := by
  unfold seenV
  rw [List.getElem?_map, List.getElem?_range h]; rfl
theorem seenV_zero (P : Nat) (f : List Int) (g S : Nat) : List.replicate S (Value.bool false) = seenV P f g S 0 := by
  refine (List.eq_replicate_iff.2 ⟨seenV_len _ _ _ _ _, fun v hv => ?_⟩).symm
  obtain ⟨y, _, rfl⟩ := List.mem_map.1 hv
  rfl
theorem seenV_set {P : Nat} {f : List Int} {g S K : Nat} (h : powF P f g (K + 1) < S) : (seenV P f g S K).set (powF P f g (K + 1)) (.bool true) = seenV P f g S (K + 1) := by
  refine List.ext_getElem? fun y => ?_
  by_cases hy : y < S
  · rw [seenV_get hy]
    by_cases e : powF P f g (K + 1) = y
    · rw [e, List.getElem?_set_self (by rw [seenV_len]; exact hy), seenB_true.2 ⟨K + 1, by omega, Nat.le_refl _, e⟩]
    · rw [List.getElem?_set_ne e, seenV_get hy]
      congr 2
      rw [Bool.eq_iff_iff, seenB_true, seenB_true]
      constructor
      · rintro ⟨i, h1, h2, h3⟩; exact ⟨i, h1, by omega, h3⟩
      · rintro ⟨i, h1, h2, h3⟩
        refine ⟨i, h1, ?_, h3⟩
        rcases Nat.lt_or_ge K i with h4 | h4
        · obtain rfl : i = K + 1 := by omega
          exact absurd h3 e
        · exact h4
  · rw [List.getElem?_eq_none (by rw [List.length_set, seenV_len]; omega), List.getElem?_eq_none (by rw [seenV_len]; omega)]
theorem bool_info : (Try.prog.info? 4).map (fun i => (i.zero, i.size, i.bytes)) = some (some (.bool false), 1, 1) := by kernel_rfl
set_option maxRecDepth 100000 in
set_option maxHeartbeats 1600000 in
theorem WFieldCyclic (a0 : Int) (a1 : Option Addr) (len1 cap1 : Nat) (z1 : List Int) (w : World) (w0 : (Lit.int .i64 a0).wf = true) (w1 : IsRow .i64 w a1 len1 cap1 z1) :
    Calls Try.prog 7 #[.int .i64 a0, .slice a1 len1 cap1] w fun e w' => e = .returned (.bool true) ∧ Below w.heap.size w w' := by
  obtain ⟨f, hLf, hf, _, hl⟩ := w1.longs
  clear w0 w1
  have HF := Lib.hid hf
  have HWI := Lib.hid fun w hf => keep_within a0 f [] a1 len1 cap1 none 0 0 w hf hLf hl (RowL.nil w) rfl (by omega)
  by_cases he : fldE a0 f = 0
  · have he2 : elE a0 f [] = 0 := elE_c he fun j x hx => by simp at hx
    rw [decide_eq_true he2] at HWI
    obtain ⟨P, m, rfl, hd⟩ := Fd.of he
    have HBA := Lib.hid (field_Base P m f a1 len1 cap1 w hd hf hLf hl)
    have HSZ := Lib.hid fun w => hd.sz hLf a1 cap1 w
    have HMU := Lib.hid fun (x g : Nat) w h (hx : x < P ^ m) (hg : g < P ^ m) => field_Mul P m f a1 len1 cap1 x g w hd.fl h hLf hl (hd.two hx hg)
    have HLT := Lib.hid fun g k => hd.fl.pow_lt g k
    have HNE := Lib.hid fun g k (hg : g < P ^ m) (g0 : g ≠ 0) => hd.fl.pow_ne hd.ir hg g0 k
    have HINJ := Lib.hid fun g i j (hg : g < P ^ m) (g0 : g ≠ 0) (ho : OrdF P f g (P ^ m - 1)) (h1 : 1 ≤ i) (h2 : i < j) (h3 : j ≤ P ^ m - 1) => hd.fl.pow_inj hd.ir hg g0 ho h1 h2 h3
    have hsm := hd.fl.small
    have hon := hd.fl.one_lt
    obtain ⟨S, hS⟩ : ∃ S, P ^ m = S := ⟨_, rfl⟩
    rw [hS] at HBA HSZ HMU HLT HNE HINJ hsm hon
    clear hS hd he he2 hf hLf hl
    obtain ⟨i0, hi, hz0, hz1, hz2⟩ := info_parts bool_info
    have hu : Try.prog.underlying 34 = some (.slice 4) := by kernel_rfl
    go_enter Try.func7, Try.ntmps7
    go_wp2_with fail
    refine HBA.out.mono ?_
    rintro e wa ⟨⟨g, rfl, g1, g2, go⟩, hb1⟩
    have HPS : Hid (∀ k, mulF P f (powF P f g k) g = powF P f g (k + 1)) := Lib.hid fun k => rfl
    have HP0 : Hid (powF P f g 0 = 1) := Lib.hid rfl
    have HEND := Lib.hid go.2.1
    have HSF : Hid (∀ K, K + 1 ≤ S - 1 → seenB P f g K (powF P f g (K + 1)) = false) := Lib.hid fun K hK => by
      rw [Bool.eq_false_iff]
      intro e
      obtain ⟨i, h1, h2, h3⟩ := seenB_true.1 e
      exact HINJ.out g i (K + 1) g1 g2 go h1 (by omega) hK h3
    have HNZ := Lib.hid fun k => HNE.out g k g1 g2
    have HMG := Lib.hid fun (k : Nat) w h => HMU.out (powF P f g k) g w h (HLT.out g k) g1
    have HL2 := Lib.hid fun k => HLT.out g k
    clear go g2 g1 HINJ HNE HMU HLT
    go_wp2_with fail
    refine (HWI.out _ (HF.out.below hb1 (Nat.le_refl _))).mono ?_
    rintro e wb ⟨rfl, hbb⟩
    have hb2 := below_two hb1 hbb
    clear hb1 hbb
    go_wp2_with fail
    refine (HSZ.out _).mono ?_
    rintro e wc ⟨rfl, rfl⟩
    have hwz := hb2.size
    go_wp2_with (first
      | (at_make; refine wpList_make_full _ rfl _ _ 34 rfl w.heap.size 4 i0 (.bool false) 1 hu hi hz0 hz1 .i64 .i64 _ _ S rfl rfl rfl rfl (by rw [hz2]; omega) (by unfold maxLen; omega) hwz ?_
         intro w5 hown1 hg1
         rw [Nat.mul_one, show (Value.bool false).cells = #[Value.bool false] from rfl, made_one, seenV_zero P f g S] at hown1
         have hb3 := hb2.grown hg1 hwz (fun j hj => by cases hj))
      | fail)
    obtain ⟨gB, hgB⟩ : ∃ gB, wb.heap.size = gB := ⟨_, rfl⟩
    rw [hgB] at hown1 hwz ⊢
    clear hgB hg1 hb2
    go_loopw [9, 10] (fun xv kv wr => ∃ K : Nat, kv = .int .i64 ((K : Int) + 1) ∧ K + 1 ≤ S ∧ xv = .int .i64 (powF P f g K) ∧ wr.ownsRow w.heap.size 4 1 (.slice (some ⟨gB, 0, none⟩) S S) S (seenV P f g S K) ∧ Below w.heap.size w wr) (fun _ kv _ => (S - intOf kv).toNat)
    case atStart => exact ⟨0, rfl, by omega, by rw [HP0.out]; rfl, hown1, hb3⟩
    case round =>
      obtain ⟨K, rfl, hK, rfl, hr, hb⟩ := hrel
      clear hown1 hb3
      by_cases hlt : K + 1 < S
      · have HF2 := Lib.hid (HF.out.below hb (Nat.le_refl _))
        have HMK := Lib.hid fun w h => HMG.out K w h
        have hs1 := HSF.out K (by omega)
        have hY0 := HNZ.out (K + 1)
        have hYS := HL2.out (K + 1)
        have HSET := Lib.hid (seenV_set (P := P) (f := f) (g := g) (S := S) (K := K) hYS)
        have HGET := Lib.hid (seenV_get (P := P) (f := f) (g := g) (S := S) (K := K) hYS)
        rw [hs1] at HGET
        rw [HPS.out] at HMK
        obtain ⟨X, hX⟩ : ∃ X, powF P f g K = X := ⟨_, rfl⟩
        obtain ⟨Y, hY⟩ : ∃ Y, powF P f g (K + 1) = Y := ⟨_, rfl⟩
        rw [hX] at HMK ⊢
        rw [hY] at HMK hY0 hYS HSET HGET
        have HY := Lib.hid hY
        clear hX hY hs1
        go_wp2_with fail
        refine (HMK.out _ HF2.out).mono ?_
        rintro e w7 ⟨rfl, hb7⟩
        have hb8 := below_two hb hb7
        have hr8 := own_keep hr hb7
        have ky := own_cell hr8 HGET.out
        have fy := own_frozen hr8 Y
        have hr9 := own_set hr8 hYS (.bool true)
        rw [HSET.out] at hr9
        have hb9 := hb8.setCell (show w.heap.size ≤ (⟨gB, Y, none⟩ : Addr).block from hwz) (.bool true)
        have y1 : ¬ (Y : Int) < 1 := by omega
        have y2 : ¬ (S : Int) ≤ Y := by omega
        clear hb hb7 hr hr8
        go_wp2
        go_roundw
        case rel => exact ⟨K + 1, by go_num, hlt, by rw [HY.out], hr9, hb9⟩
        case measure => simp [intOf]; omega
      · have HE : Hid (powF P f g K = 1) := Lib.hid (by rw [show K = S - 1 by omega]; exact HEND.out)
        rw [HE.out]
        go_wp2
        go_ret
        exact ⟨by simp, hb⟩
  · rw [decide_eq_false (show ¬ elE a0 f [] = 0 by rw [elE_a he]; exact he)] at HWI
    have HBB := Lib.hid (field_Base_bad a0 f a1 len1 cap1 w hf hLf hl he)
    obtain ⟨E, hE⟩ : ∃ E, fldE a0 f = E := ⟨_, rfl⟩
    rw [hE] at HBB he
    have e1 : (E == 0) = false := by simpa using he
    have e2 : (E != 0) = true := by simpa using he
    clear he hE hf hLf hl
    go_enter Try.func7, Try.ntmps7
    go_wp2_with fail
    refine HBB.out.mono ?_
    rintro e wa ⟨rfl, hb1⟩
    go_wp2_with fail
    refine (HWI.out _ (HF.out.below hb1 (Nat.le_refl _))).mono ?_
    rintro e wb ⟨rfl, hbb⟩
    have hbz := below_two hb1 hbb
    clear hb1 hbb
    go_wp2
    go_ret
    exact ⟨by simp, hbz⟩
end Go.Proofs.Ytkkefbjmdbjbhaa

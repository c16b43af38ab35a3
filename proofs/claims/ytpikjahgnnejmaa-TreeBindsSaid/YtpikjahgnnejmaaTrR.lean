/- tree.rows, with any visitor; Root. -/
import Derived.Test.YtpikjahgnnejmaaTrU
namespace Go.Proofs.Ytpikjahgnnejmaa
open Go.RowKit
set_option linter.unusedVariables false
set_option linter.unusedSimpArgs false
/-- the rows from the lowest up: the root, and what is made of the rows -/
def runS {σ : Type} (stp : σ → List Nat → σ) : Nat → List Nat → σ → Nat × σ
  | 0, row, s => (row.getD 0 0, s)
  | f + 1, row, s => if row.length ≤ 1 then (row.getD 0 0, s) else runS stp f (upL row) (stp s row)
theorem runS_fuel {σ : Type} (stp : σ → List Nat → σ) : ∀ (f g : Nat) (row : List Nat) (s : σ), row.length ≤ f + 1 → f ≤ g → runS stp g row s = runS stp f row s
  | 0, 0, row, s, h, hg => rfl
  | 0, g + 1, row, s, h, hg => by
    show (if row.length ≤ 1 then _ else _) = _
    rw [if_pos (by omega)]; rfl
  | f + 1, g + 1, row, s, h, hg => by
    show (if row.length ≤ 1 then _ else _) = (if row.length ≤ 1 then _ else _)
    by_cases h1 : row.length ≤ 1
    · rw [if_pos h1, if_pos h1]
    · rw [if_neg h1, if_neg h1]
      exact runS_fuel stp f g _ _ (by rw [upL_len]; omega) (by omega)
theorem runS_step {σ : Type} (stp : σ → List Nat → σ) {row : List Nat} {s : σ} (h : 1 < row.length) (h2 : row.length ≤ 64) : runS stp 64 row s = runS stp 64 (upL row) (stp s row) := by
  rw [show runS stp 64 row s = if row.length ≤ 1 then (row.getD 0 0, s) else runS stp 63 (upL row) (stp s row) from rfl, if_neg (by omega)]
  exact (runS_fuel stp 63 64 _ _ (by rw [upL_len]; omega) (by omega)).symm
theorem runS_end {σ : Type} (stp : σ → List Nat → σ) {row : List Nat} {s : σ} (h : row.length ≤ 1) : runS stp 64 row s = (row.getD 0 0, s) := by
  rw [show runS stp 64 row s = if row.length ≤ 1 then (row.getD 0 0, s) else runS stp 63 (upL row) (stp s row) from rfl, if_pos h]
def leafS (x : List Nat) : Nat := sumN (0 :: x)
def RowU (W : World) (g : Nat) (xs : List Nat) : Prop := ∀ (i x : Nat), xs[i]? = some x → W.cell? ⟨g, i, none⟩ = some (.int .u32 (x : Int))
theorem own_rowU {W : World} {base g k cap : Nat} {xs : List Nat} (h : W.ownsRow base 23 1 (.slice (some ⟨g, 0, none⟩) k cap) k (u32V xs)) : RowU W g xs := fun i x hx => own_cell h (by simp [u32V, hx])
theorem row_ownB {W : World} {base g k cap : Nat} {xs : List Nat} (h : W.ownsRow base 5 1 (.slice (some ⟨g, 0, none⟩) k cap) k (byV xs)) : RowB W (some ⟨g, 0, none⟩) cap xs := by
  refine ⟨fun e => (by cases e), fun ad e j u hu => ?_⟩
  cases e
  rw [add_at]
  exact own_cell h hu
/-- a visitor of rows -/
structure Visits {σ : Type} (stp : σ → List Nat → σ) (J : σ → Option Nat → World → Prop) (F : FuncId) (caps : Array Value) (base : Nat) (cnt : σ → Nat) : Prop where
  cnt_le : ∀ s xs, cnt (stp s xs) ≤ cnt s + 1
  eg : ∀ args w, (callFunc F args).run Try.prog w = .ok (.enter F args) w
  below : ∀ s ob W W', J s ob W → Below W.heap.size W W' → J s ob W'
  lt : ∀ s ob W k, J s ob W → ob = some k → k < W.heap.size
  visit : ∀ s ob W g L cp xs, cnt s ≤ 64 → J s ob W → some g ≠ ob → base ≤ g → g < W.heap.size → RowU W g xs → xs.length = L → L ≤ 64 → L ≤ cp → (∀ x ∈ xs, x < 65536) →
    Calls Try.prog F (#[.slice (some ⟨g, 0, none⟩) L cp] ++ caps) W fun e w' => (∃ v, e = .returned v) ∧ ∃ ob', J (stp s xs) ob' w' ∧ (ob' = ob ∨ ∃ k, ob' = some k ∧ W.heap.size ≤ k) ∧ W.heap.size ≤ w'.heap.size ∧ ∀ k, base ≤ k → k < W.heap.size → some k ≠ ob → w'.heap[k]? = W.heap[k]?
set_option maxRecDepth 20000 in
set_option maxHeartbeats 3200000 in
theorem tree_rows {σ : Type} (stp : σ → List Nat → σ) (J : σ → Option Nat → World → Prop) (F : FuncId) (caps : Array Value) (s0 : σ) (ob0 : Option Nat) (a0 : Option Addr) (len cap : Nat) (z : List (List Nat)) (w : World)
    (cnt : σ → Nat) (hcnt : cnt s0 = 0) (hv : Visits stp J F caps w.heap.size cnt) (h : IsMatB w a0 len cap z) (hE : leafsE z = 0) (hJ : J s0 ob0 w) :
    Calls Try.prog 39 #[.slice a0 len cap, .func (.func F) #[] caps] w fun e w' => ∃ ob, e = .returned (.int .u32 ((runS stp 64 (z.map leafS) s0).1 : Nat)) ∧ J (runS stp 64 (z.map leafS) s0).2 ob w' := by
  obtain ⟨i0, hi, hz0, hz1, hz2⟩ := info_parts u32_info
  have hu : Try.prog.underlying 44 = some (.slice 23) := by kernel_rfl
  obtain ⟨hL, hl, ⟨R, hR⟩, hz⟩ := h
  have hlen : 1 ≤ len ∧ len ≤ 64 ∧ z.any longB = false := by
    unfold leafsE at hE
    split at hE
    · omega
    · split at hE
      · omega
      · rename_i h1 h2
        refine ⟨by omega, by omega, ?_⟩
        cases hq : z.any longB with
        | false => rfl
        | true => exact absurd (.inr hq) h2
  obtain ⟨l1, l2, l3⟩ := hlen
  have HV := Lib.hid hv
  have HJ := Lib.hid hJ
  have HR := Lib.hid hR
  have HL := Lib.hid hL
  have HZ := Lib.hid hz
  have HN := Lib.hid l3
  have heg := hv.eg
  clear hv hJ hR hL hz hE l3
  go_enter Try.func39, Try.ntmps39
  go_wp2
  go_loopw [5, 10] (fun v iv wr => ∃ I : Nat, iv = .int .i64 I ∧ I ≤ len ∧ Below w.heap.size w wr ∧ wr.ownsRow w.heap.size 23 1 v I (u32V ((z.take I).map leafS))) (fun _ iv _ => (len - (intOf iv).toNat))
  case atStart => exact ⟨0, rfl, Nat.zero_le _, Below.refl _ _, World.ownsRow_nil _ _ _ _⟩
  case round =>
    obtain ⟨I, rfl, hI, hb, ho⟩ := hrel
    have hzz := hb.size
    by_cases hlt : I < len
    · obtain ⟨x, hx⟩ : ∃ x, z[I]? = some x := ⟨_, List.getElem?_eq_getElem (by rw [HL.out]; exact hlt)⟩
      obtain ⟨b, o, rfl, hcell⟩ := (HR.out.below hb (Nat.le_refl _)).shape (by rw [HL.out]; omega)
      have kx := hcell I x hx
      have HRX := Lib.hid ((HR.out.below hb (Nat.le_refl _)).row I x hx)
      have HX2 := Lib.hid (HZ.out x (List.mem_of_getElem? hx))
      have hshort : x.length < 4096 := by
        have := List.any_eq_false.1 HN.out x (List.mem_of_getElem? hx)
        simp [longB] at this
        omega
      have HTK : Hid (u32V ((z.take I).map leafS) ++ [.int .u32 (leafS x : Nat)] = u32V ((z.take (I + 1)).map leafS)) := Lib.hid (by rw [List.take_add_one, hx]; simp [u32V])
      have HLT := Lib.hid fun W hW => tree_leafText (R I).1 (R I).2 x W hW (by omega)
      have HLW := HLT.out wr HRX.out
      replace HLW := Lib.hid HLW
      clear hcell hx HLT
      obtain ⟨XL, hXL⟩ : ∃ n, x.length = n := ⟨_, rfl⟩
      have HXL := Lib.hid hXL
      rw [hXL] at kx HLW hshort
      clear hXL
      go_wp2_with fail
      refine HLW.out.mono ?_
      rintro e w1 ⟨v1, rfl, hb1, ho1⟩
      obtain ⟨g1, c1, rfl, hg1⟩ := own_shape ho1 (by omega)
      have HOF := hash_Of (some ⟨g1, 0, none⟩) c1 (0 :: x) w1 (row_ownB ho1) (by simp only [List.length_cons]; rw [HXL.out]; omega) (by
        intro y hy
        rcases List.mem_cons.1 hy with rfl | hy
        · omega
        · exact HX2.out.2 y hy)
      rw [List.length_cons, HXL.out] at HOF
      replace HOF := Lib.hid HOF
      clear ho1 hg1
      go_wp2_with fail
      refine HOF.out.mono ?_
      rintro e w2 ⟨rfl, hb2⟩
      have hb12 : Below wr.heap.size wr w2 := hb1.trans (hb2.mono hb1.size)
      have ho2 := own_keep ho hb12
      have hbw : Below w.heap.size w w2 := hb.trans (hb12.mono hb.size)
      have hz2' := hbw.size
      have hls : sumN (0 :: x) = leafS x := rfl
      rw [hls]
      obtain ⟨q, hq⟩ : ∃ q, leafS x = q := ⟨_, rfl⟩
      rw [hq] at HTK ⊢
      clear hq hls hb12 ho hb1 hb2
      go_wp2_with (first
        | (at_builtin; refine wpList_append_own _ rfl _ _ 44 rfl w.heap.size 23 i0 (.int .u32 0) 1 4 hu hi hz0 hz1 hz2 rfl (by decide) _ _ _ rfl (ho2.alloc _) ⟨w2.heap.size, 0, none⟩ 1 1 [.int .u32 (q : Int)] rfl rfl (cell_new1 _ _ _ rfl) (by simp [Value.oneCell']) (by unfold maxLen; omega) (by omega) (by simp; omega) ?_; intro v' w3 hown' hg2 hnil2; have kk2 := ((hbw.alloc hz2' (.cells #[.int .u32 (q : Int)] 23)).grown hg2 (by simp; omega) (fun j hj => (ho2.lt j hj).1))))
      go_roundw
      case rel => exact ⟨I + 1, by go_num, by omega, kk2, by rw [HTK.out] at hown'; exact hown'⟩
      case measure => simp [intOf]; omega
    · obtain rfl : I = len := by omega
      rw [List.take_of_length_le (by rw [HL.out]; omega)] at ho
      obtain ⟨g, cp, rfl, hg1, hg2, hg3, hg4⟩ := own_shape ho (by omega)
      have hru := own_rowU ho
      have HRU := Lib.hid hru
      have hml : (z.map leafS).length = I := by rw [List.length_map, HL.out]
      have HLS : Hid (∀ x ∈ z.map leafS, x < 65536) := Lib.hid (by
        intro y hy
        obtain ⟨x, _, rfl⟩ := List.mem_map.1 hy
        exact sumN_lt _)
      have HJ1 := Lib.hid (HV.out.below _ _ _ _ HJ.out hb)
      have hob : some g ≠ ob0 := fun e => by
        have := HV.out.lt _ _ _ _ HJ.out e.symm
        omega
      have HOB := Lib.hid hob
      obtain ⟨row0, hr0⟩ : ∃ r, z.map leafS = r := ⟨_, rfl⟩
      rw [hr0] at HRU hml HLS
      have HR0 := Lib.hid hr0
      unfold maxLen at hg4
      clear hru hob ho hlt hr0
      go_wp2
      go_loopw [5] (fun v wr => ∃ (xs : List Nat) (s : σ) (ob : Option Nat) (g cp L : Nat), v = .slice (some ⟨g, 0, none⟩) L cp ∧ Hid (RowU wr g xs) ∧ Hid (xs.length = L) ∧ 1 ≤ L ∧ L ≤ 64 ∧ L ≤ cp ∧ cp ≤ 9223372036854775807 ∧ Hid (∀ x ∈ xs, x < 65536) ∧ w.heap.size ≤ g ∧ g < wr.heap.size ∧ Hid (J s ob wr) ∧ Hid (some g ≠ ob) ∧ w.heap.size ≤ wr.heap.size ∧ Hid (runS stp 64 row0 s0 = runS stp 64 xs s) ∧ Hid (cnt s + L ≤ 64)) (fun v _ => match v with | .slice _ k _ => k | _ => 0)
      case atStart => exact ⟨row0, s0, ob0, g, cp, I, rfl, HRU, Lib.hid hml, l1, l2, hg3, by omega, HLS, hg1, hg2, HJ1, HOB, hzz, Lib.hid rfl, Lib.hid (by omega)⟩
      case round =>
        obtain ⟨xs, s, ob, g, cp, L, rfl, HRU, HXL, hL1, hL2, hLc, hcp, HXS, hgb, hgl, HJ, HOB, hwz, HRS, HCN⟩ := hrel
        by_cases h1 : 1 < L
        · obtain ⟨W, hW⟩ : ∃ W : World, W = wr := ⟨_, rfl⟩
          have HVC := Lib.hid (HV.out.visit s ob _ g L cp xs (by have := HCN.out; omega) HJ.out HOB.out hgb hgl HRU.out HXL.out hL2 hLc HXS.out)
          have HUS : Hid (runS stp 64 row0 s0 = runS stp 64 (upL xs) (stp s xs)) := Lib.hid (by rw [HRS.out]; exact runS_step stp (by rw [HXL.out]; exact h1) (by rw [HXL.out]; exact hL2))
          have HUL : Hid ((upL xs).length = (L + 1) / 2) := Lib.hid (by rw [upL_len, HXL.out])
          have HUX := Lib.hid (upL_lt xs HXS.out)
          clear hW
          go_wp2_with fail
          refine HVC.out.mono ?_
          rintro e w1 ⟨⟨v, rfl⟩, ob1, hJ1, hob1, hz1, hkeep⟩
          have hg1 : w1.heap[g]? = _ := hkeep g hgb hgl HOB.out
          have HRU1 : Hid (RowU w1 g xs) := Lib.hid fun i y hy => (World.cell?_of_block hg1).trans (HRU.out i y hy)
          have HOB1 : Hid (some g ≠ ob1) := Lib.hid (by
            rcases hob1 with e | ⟨k, e, hk⟩
            · rw [e]; exact HOB.out
            · rw [e]; intro e2; cases e2; omega)
          have HUP := Lib.hid (tree_up g 0 L cp xs w1 (fun i y hy => by rw [Nat.zero_add]; exact HRU1.out i y hy) HXL.out hL2 hLc hcp HXS.out)
          have HJ1 := Lib.hid hJ1
          clear hJ1 hob1 hkeep hg1
          go_wp2_with fail
          refine HUP.out.mono ?_
          rintro e w2 ⟨v2, rfl, hb2, ho2⟩
          rw [HUL.out] at ho2
          obtain ⟨g2, c2, rfl, k1, k2, k3, k4⟩ := own_shape ho2 (by omega)
          have HRU2 := Lib.hid (own_rowU ho2)
          have HJ2 := Lib.hid (HV.out.below _ _ _ _ HJ1.out hb2)
          have HOB2 : Hid (some g2 ≠ ob1) := Lib.hid (fun e => by
            have := HV.out.lt _ _ _ _ HJ1.out e.symm
            omega)
          have hz2 := hb2.size
          unfold maxLen at k4
          clear ho2 hb2
          go_wp2
          go_roundw
          case rel => exact ⟨upL xs, stp s xs, ob1, g2, c2, (L + 1) / 2, rfl, HRU2, HUL, by omega, by omega, k3, by omega, HUX, by omega, k2, HJ2, HOB2, by omega, HUS, Lib.hid (by have h8 := HCN.out; have h9 := HV.out.cnt_le s xs; omega)⟩
          case measure => simp; omega
        · obtain rfl : L = 1 := by omega
          obtain ⟨x, hx⟩ : ∃ x, xs[0]? = some x := ⟨_, List.getElem?_eq_getElem (by rw [HXL.out]; omega)⟩
          have k0 := HRU.out 0 x hx
          have HRE : Hid (runS stp 64 row0 s0 = (x, s)) := Lib.hid (by
            rw [HRS.out, runS_end stp (by rw [HXL.out]; omega), List.getD_eq_getElem?_getD, hx]; rfl)
          clear hx
          go_wp2
          go_ret
          exact ⟨ob, by rw [HR0.out, HRE.out]; rfl, by rw [HR0.out, HRE.out]; exact HJ.out⟩
end Go.Proofs.Ytpikjahgnnejmaa

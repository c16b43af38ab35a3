/- The walk of CurveBrackets. -/
import Derived.Test.YtnheboamjfahaaaCur5
namespace Go.Proofs.Ytnheboamjfahaaa
open Go.RowKit
set_option linter.unusedVariables false
set_option linter.unusedSimpArgs false

set_option maxHeartbeats 1600000 in
theorem cb_no1 (p a b sx sy tx ty rx ry : Int) (sf tf rf : Bool) (w : World) (x : Int) (h : ¬ x = 0) (HA : ∀ w, Calls Try.prog 9 #[.agg #[.int .i64 p, .int .i64 a, .int .i64 b], .agg #[.int .i64 sx, .int .i64 sy, .bool sf], .agg #[.int .i64 tx, .int .i64 ty, .bool tf]] w fun e w' => e = .returned (.tuple #[.agg #[.int .i64 0, .int .i64 0, .bool false], .int .i64 x]) ∧ Below w.heap.size w w') (HK : ∀ ap cp w, RowS w ap [⟨sx, sy, sf⟩, ⟨tx, ty, tf⟩] → Calls Try.prog 8 #[.agg #[.int .i64 p, .int .i64 a, .int .i64 b], .slice ap 2 cp] w fun e w' => e = .returned (.bool false) ∧ Below w.heap.size w w') :
    Calls Try.prog 4 #[.agg #[.int .i64 p, .int .i64 a, .int .i64 b], .agg #[.int .i64 sx, .int .i64 sy, .bool sf], .agg #[.int .i64 tx, .int .i64 ty, .bool tf], .agg #[.int .i64 rx, .int .i64 ry, .bool rf]] w fun e w' => e = .returned (.bool true) ∧ Below w.heap.size w w' := by
  have e1 : (x == 0) = false := by simpa using h
  have e2 : (x != 0) = true := by simpa using h
  replace HA := Lib.hid HA
  replace HK := Lib.hid HK
  go_enter Try.func4, Try.ntmps4
  go_wp2_with fail
  refine (HA.out _).mono ?_
  rintro e w1 ⟨rfl, hb1⟩
  have z1 := hb1.size
  try simp at z1
  have hz1 := below_two (((((Below.refl _ _).alloc (Nat.le_refl _) _).alloc (by simp <;> omega) _).alloc (by simp <;> omega) _).alloc (by simp <;> omega) _) hb1
  have cc0 := kept hb1 (b := w.heap.size) (o := 0) (v := .int .i64 p) (by simp [go_sem]) (by simp [go_sem] <;> omega)
  have cc1 := kept hb1 (b := w.heap.size) (o := 1) (v := .int .i64 a) (by simp [go_sem]) (by simp [go_sem] <;> omega)
  have cc2 := kept hb1 (b := w.heap.size) (o := 2) (v := .int .i64 b) (by simp [go_sem]) (by simp [go_sem] <;> omega)
  have cs0 := kept hb1 (b := w.heap.size + 1) (o := 0) (v := .int .i64 sx) (by simp [go_sem]) (by simp [go_sem] <;> omega)
  have cs1 := kept hb1 (b := w.heap.size + 1) (o := 1) (v := .int .i64 sy) (by simp [go_sem]) (by simp [go_sem] <;> omega)
  have cs2 := kept hb1 (b := w.heap.size + 1) (o := 2) (v := .bool sf) (by simp [go_sem]) (by simp [go_sem] <;> omega)
  have ct0 := kept hb1 (b := w.heap.size + 1 + 1) (o := 0) (v := .int .i64 tx) (by simp [go_sem]) (by simp [go_sem] <;> omega)
  have ct1 := kept hb1 (b := w.heap.size + 1 + 1) (o := 1) (v := .int .i64 ty) (by simp [go_sem]) (by simp [go_sem] <;> omega)
  have ct2 := kept hb1 (b := w.heap.size + 1 + 1) (o := 2) (v := .bool tf) (by simp [go_sem]) (by simp [go_sem] <;> omega)
  have cr0 := kept hb1 (b := w.heap.size + 1 + 1 + 1) (o := 0) (v := .int .i64 rx) (by simp [go_sem]) (by simp [go_sem] <;> omega)
  have cr1 := kept hb1 (b := w.heap.size + 1 + 1 + 1) (o := 1) (v := .int .i64 ry) (by simp [go_sem]) (by simp [go_sem] <;> omega)
  have cr2 := kept hb1 (b := w.heap.size + 1 + 1 + 1) (o := 2) (v := .bool rf) (by simp [go_sem]) (by simp [go_sem] <;> omega)
  have nac : ¬ w.heap.size = w1.heap.size := by omega
  have nbc : ¬ w1.heap.size = w.heap.size := by omega
  have nas : ¬ w.heap.size + 1 = w1.heap.size := by omega
  have nbs : ¬ w1.heap.size = w.heap.size + 1 := by omega
  have nat : ¬ w.heap.size + 1 + 1 = w1.heap.size := by omega
  have nbt : ¬ w1.heap.size = w.heap.size + 1 + 1 := by omega
  have nar : ¬ w.heap.size + 1 + 1 + 1 = w1.heap.size := by omega
  have nbr : ¬ w1.heap.size = w.heap.size + 1 + 1 + 1 := by omega
  have hbw := hz1
  clear hz1 hb1
  have hA1 : Below w1.heap.size w1 (w1.alloc (.cells #[.int .i64 0, .int .i64 0, .bool false] 30)) := (Below.refl _ _).alloc (Nat.le_refl _) _
  have xcc0 := kept hA1 cc0 (by omega)
  have xcc1 := kept hA1 cc1 (by omega)
  have xcc2 := kept hA1 cc2 (by omega)
  have xcs0 := kept hA1 cs0 (by omega)
  have xcs1 := kept hA1 cs1 (by omega)
  have xcs2 := kept hA1 cs2 (by omega)
  have xct0 := kept hA1 ct0 (by omega)
  have xct1 := kept hA1 ct1 (by omega)
  have xct2 := kept hA1 ct2 (by omega)
  have xcr0 := kept hA1 cr0 (by omega)
  have xcr1 := kept hA1 cr1 (by omega)
  have xcr2 := kept hA1 cr2 (by omega)
  clear hA1
  go_wp2_with fail
  refine (HK.out _ 2 _ ?r1).mono ?_
  case r1 => exact RowS.two (by simp [go_sem]) (by simp [go_sem]) (by simp [go_sem]) (by simp [go_sem]) (by simp [go_sem]) (by simp [go_sem]) (by simp [go_sem] <;> omega)
  rintro e w2 ⟨rfl, hb2⟩
  have z2 := hb2.size
  try simp at z2
  have hz2 := below_two (((Below.refl _ _).alloc (Nat.le_refl _) _).alloc (by simp <;> omega) _) hb2
  try clear nac nbc
  try clear nas nbs
  try clear nat nbt
  try clear nar nbr
  clear xcc0 xcc1 xcc2 xcs0 xcs1 xcs2 xct0 xct1 xct2 xcr0 xcr1 xcr2
  replace cc0 := kept hz2 cc0 (by omega)
  replace cc1 := kept hz2 cc1 (by omega)
  replace cc2 := kept hz2 cc2 (by omega)
  replace cs0 := kept hz2 cs0 (by omega)
  replace cs1 := kept hz2 cs1 (by omega)
  replace cs2 := kept hz2 cs2 (by omega)
  replace ct0 := kept hz2 ct0 (by omega)
  replace ct1 := kept hz2 ct1 (by omega)
  replace ct2 := kept hz2 ct2 (by omega)
  replace cr0 := kept hz2 cr0 (by omega)
  replace cr1 := kept hz2 cr1 (by omega)
  replace cr2 := kept hz2 cr2 (by omega)
  have nac : ¬ w.heap.size = w2.heap.size := by omega
  have nbc : ¬ w2.heap.size = w.heap.size := by omega
  have nas : ¬ w.heap.size + 1 = w2.heap.size := by omega
  have nbs : ¬ w2.heap.size = w.heap.size + 1 := by omega
  have nat : ¬ w.heap.size + 1 + 1 = w2.heap.size := by omega
  have nbt : ¬ w2.heap.size = w.heap.size + 1 + 1 := by omega
  have nar : ¬ w.heap.size + 1 + 1 + 1 = w2.heap.size := by omega
  have nbr : ¬ w2.heap.size = w.heap.size + 1 + 1 + 1 := by omega
  have hbx := below_two hbw hz2
  clear hbw
  have hbw := hbx
  clear hbx
  clear hz2 hb2
  go_wp2
  go_ret
  exact ⟨rfl, hbw⟩
set_option maxHeartbeats 1600000 in
theorem cb_no2 (p a b sx sy tx ty rx ry : Int) (sf tf rf : Bool) (w : World) (x ux uy : Int) (uf : Bool) (h : ¬ x = 0) (HA : ∀ w, Calls Try.prog 9 #[.agg #[.int .i64 p, .int .i64 a, .int .i64 b], .agg #[.int .i64 sx, .int .i64 sy, .bool sf], .agg #[.int .i64 tx, .int .i64 ty, .bool tf]] w fun e w' => e = .returned (.tuple #[.agg #[.int .i64 ux, .int .i64 uy, .bool uf], .int .i64 0]) ∧ Below w.heap.size w w') (HK : ∀ ap cp w, RowS w ap [⟨sx, sy, sf⟩, ⟨tx, ty, tf⟩] → Calls Try.prog 8 #[.agg #[.int .i64 p, .int .i64 a, .int .i64 b], .slice ap 2 cp] w fun e w' => e = .returned (.bool true) ∧ Below w.heap.size w w') (HB : ∀ w, Calls Try.prog 9 #[.agg #[.int .i64 p, .int .i64 a, .int .i64 b], .agg #[.int .i64 tx, .int .i64 ty, .bool tf], .agg #[.int .i64 rx, .int .i64 ry, .bool rf]] w fun e w' => e = .returned (.tuple #[.agg #[.int .i64 0, .int .i64 0, .bool false], .int .i64 x]) ∧ Below w.heap.size w w') (HJ : ∀ ap cp w, RowS w ap [⟨rx, ry, rf⟩] → Calls Try.prog 8 #[.agg #[.int .i64 p, .int .i64 a, .int .i64 b], .slice ap 1 cp] w fun e w' => e = .returned (.bool false) ∧ Below w.heap.size w w') :
    Calls Try.prog 4 #[.agg #[.int .i64 p, .int .i64 a, .int .i64 b], .agg #[.int .i64 sx, .int .i64 sy, .bool sf], .agg #[.int .i64 tx, .int .i64 ty, .bool tf], .agg #[.int .i64 rx, .int .i64 ry, .bool rf]] w fun e w' => e = .returned (.bool true) ∧ Below w.heap.size w w' := by
  have e1 : (x == 0) = false := by simpa using h
  have e2 : (x != 0) = true := by simpa using h
  replace HA := Lib.hid HA
  replace HK := Lib.hid HK
  replace HB := Lib.hid HB
  replace HJ := Lib.hid HJ
  go_enter Try.func4, Try.ntmps4
  go_wp2_with fail
  refine (HA.out _).mono ?_
  rintro e w1 ⟨rfl, hb1⟩
  have z1 := hb1.size
  try simp at z1
  have hz1 := below_two (((((Below.refl _ _).alloc (Nat.le_refl _) _).alloc (by simp <;> omega) _).alloc (by simp <;> omega) _).alloc (by simp <;> omega) _) hb1
  have cc0 := kept hb1 (b := w.heap.size) (o := 0) (v := .int .i64 p) (by simp [go_sem]) (by simp [go_sem] <;> omega)
  have cc1 := kept hb1 (b := w.heap.size) (o := 1) (v := .int .i64 a) (by simp [go_sem]) (by simp [go_sem] <;> omega)
  have cc2 := kept hb1 (b := w.heap.size) (o := 2) (v := .int .i64 b) (by simp [go_sem]) (by simp [go_sem] <;> omega)
  have cs0 := kept hb1 (b := w.heap.size + 1) (o := 0) (v := .int .i64 sx) (by simp [go_sem]) (by simp [go_sem] <;> omega)
  have cs1 := kept hb1 (b := w.heap.size + 1) (o := 1) (v := .int .i64 sy) (by simp [go_sem]) (by simp [go_sem] <;> omega)
  have cs2 := kept hb1 (b := w.heap.size + 1) (o := 2) (v := .bool sf) (by simp [go_sem]) (by simp [go_sem] <;> omega)
  have ct0 := kept hb1 (b := w.heap.size + 1 + 1) (o := 0) (v := .int .i64 tx) (by simp [go_sem]) (by simp [go_sem] <;> omega)
  have ct1 := kept hb1 (b := w.heap.size + 1 + 1) (o := 1) (v := .int .i64 ty) (by simp [go_sem]) (by simp [go_sem] <;> omega)
  have ct2 := kept hb1 (b := w.heap.size + 1 + 1) (o := 2) (v := .bool tf) (by simp [go_sem]) (by simp [go_sem] <;> omega)
  have cr0 := kept hb1 (b := w.heap.size + 1 + 1 + 1) (o := 0) (v := .int .i64 rx) (by simp [go_sem]) (by simp [go_sem] <;> omega)
  have cr1 := kept hb1 (b := w.heap.size + 1 + 1 + 1) (o := 1) (v := .int .i64 ry) (by simp [go_sem]) (by simp [go_sem] <;> omega)
  have cr2 := kept hb1 (b := w.heap.size + 1 + 1 + 1) (o := 2) (v := .bool rf) (by simp [go_sem]) (by simp [go_sem] <;> omega)
  have nac : ¬ w.heap.size = w1.heap.size := by omega
  have nbc : ¬ w1.heap.size = w.heap.size := by omega
  have nas : ¬ w.heap.size + 1 = w1.heap.size := by omega
  have nbs : ¬ w1.heap.size = w.heap.size + 1 := by omega
  have nat : ¬ w.heap.size + 1 + 1 = w1.heap.size := by omega
  have nbt : ¬ w1.heap.size = w.heap.size + 1 + 1 := by omega
  have nar : ¬ w.heap.size + 1 + 1 + 1 = w1.heap.size := by omega
  have nbr : ¬ w1.heap.size = w.heap.size + 1 + 1 + 1 := by omega
  have hbw := hz1
  clear hz1 hb1
  have hA1 : Below w1.heap.size w1 (w1.alloc (.cells #[.int .i64 ux, .int .i64 uy, .bool uf] 30)) := (Below.refl _ _).alloc (Nat.le_refl _) _
  have xcc0 := kept hA1 cc0 (by omega)
  have xcc1 := kept hA1 cc1 (by omega)
  have xcc2 := kept hA1 cc2 (by omega)
  have xcs0 := kept hA1 cs0 (by omega)
  have xcs1 := kept hA1 cs1 (by omega)
  have xcs2 := kept hA1 cs2 (by omega)
  have xct0 := kept hA1 ct0 (by omega)
  have xct1 := kept hA1 ct1 (by omega)
  have xct2 := kept hA1 ct2 (by omega)
  have xcr0 := kept hA1 cr0 (by omega)
  have xcr1 := kept hA1 cr1 (by omega)
  have xcr2 := kept hA1 cr2 (by omega)
  clear hA1
  go_wp2_with fail
  refine (HK.out _ 2 _ ?r1).mono ?_
  case r1 => exact RowS.two (by simp [go_sem]) (by simp [go_sem]) (by simp [go_sem]) (by simp [go_sem]) (by simp [go_sem]) (by simp [go_sem]) (by simp [go_sem] <;> omega)
  rintro e w2 ⟨rfl, hb2⟩
  have z2 := hb2.size
  try simp at z2
  have hz2 := below_two (((Below.refl _ _).alloc (Nat.le_refl _) _).alloc (by simp <;> omega) _) hb2
  try clear nac nbc
  try clear nas nbs
  try clear nat nbt
  try clear nar nbr
  clear xcc0 xcc1 xcc2 xcs0 xcs1 xcs2 xct0 xct1 xct2 xcr0 xcr1 xcr2
  replace cc0 := kept hz2 cc0 (by omega)
  replace cc1 := kept hz2 cc1 (by omega)
  replace cc2 := kept hz2 cc2 (by omega)
  replace cs0 := kept hz2 cs0 (by omega)
  replace cs1 := kept hz2 cs1 (by omega)
  replace cs2 := kept hz2 cs2 (by omega)
  replace ct0 := kept hz2 ct0 (by omega)
  replace ct1 := kept hz2 ct1 (by omega)
  replace ct2 := kept hz2 ct2 (by omega)
  replace cr0 := kept hz2 cr0 (by omega)
  replace cr1 := kept hz2 cr1 (by omega)
  replace cr2 := kept hz2 cr2 (by omega)
  have cu0 := kept hb2 (b := w1.heap.size) (o := 0) (v := .int .i64 ux) (by simp [go_sem]) (by simp [go_sem] <;> omega)
  have cu1 := kept hb2 (b := w1.heap.size) (o := 1) (v := .int .i64 uy) (by simp [go_sem]) (by simp [go_sem] <;> omega)
  have cu2 := kept hb2 (b := w1.heap.size) (o := 2) (v := .bool uf) (by simp [go_sem]) (by simp [go_sem] <;> omega)
  have nac : ¬ w.heap.size = w2.heap.size := by omega
  have nbc : ¬ w2.heap.size = w.heap.size := by omega
  have nas : ¬ w.heap.size + 1 = w2.heap.size := by omega
  have nbs : ¬ w2.heap.size = w.heap.size + 1 := by omega
  have nat : ¬ w.heap.size + 1 + 1 = w2.heap.size := by omega
  have nbt : ¬ w2.heap.size = w.heap.size + 1 + 1 := by omega
  have nar : ¬ w.heap.size + 1 + 1 + 1 = w2.heap.size := by omega
  have nbr : ¬ w2.heap.size = w.heap.size + 1 + 1 + 1 := by omega
  have nau : ¬ w1.heap.size = w2.heap.size := by omega
  have nbu : ¬ w2.heap.size = w1.heap.size := by omega
  have hbx := below_two hbw hz2
  clear hbw
  have hbw := hbx
  clear hbx
  clear hz2 hb2
  go_wp2_with fail
  refine (HB.out _).mono ?_
  rintro e w3 ⟨rfl, hb3⟩
  have z3 := hb3.size
  try simp at z3
  have hz3 := below_two ((Below.refl _ _)) hb3
  try clear nac nbc
  try clear nas nbs
  try clear nat nbt
  try clear nar nbr
  try clear nau nbu
  replace cc0 := kept hz3 cc0 (by omega)
  replace cc1 := kept hz3 cc1 (by omega)
  replace cc2 := kept hz3 cc2 (by omega)
  replace cs0 := kept hz3 cs0 (by omega)
  replace cs1 := kept hz3 cs1 (by omega)
  replace cs2 := kept hz3 cs2 (by omega)
  replace ct0 := kept hz3 ct0 (by omega)
  replace ct1 := kept hz3 ct1 (by omega)
  replace ct2 := kept hz3 ct2 (by omega)
  replace cr0 := kept hz3 cr0 (by omega)
  replace cr1 := kept hz3 cr1 (by omega)
  replace cr2 := kept hz3 cr2 (by omega)
  replace cu0 := kept hz3 cu0 (by omega)
  replace cu1 := kept hz3 cu1 (by omega)
  replace cu2 := kept hz3 cu2 (by omega)
  have nac : ¬ w.heap.size = w3.heap.size := by omega
  have nbc : ¬ w3.heap.size = w.heap.size := by omega
  have nas : ¬ w.heap.size + 1 = w3.heap.size := by omega
  have nbs : ¬ w3.heap.size = w.heap.size + 1 := by omega
  have nat : ¬ w.heap.size + 1 + 1 = w3.heap.size := by omega
  have nbt : ¬ w3.heap.size = w.heap.size + 1 + 1 := by omega
  have nar : ¬ w.heap.size + 1 + 1 + 1 = w3.heap.size := by omega
  have nbr : ¬ w3.heap.size = w.heap.size + 1 + 1 + 1 := by omega
  have nau : ¬ w1.heap.size = w3.heap.size := by omega
  have nbu : ¬ w3.heap.size = w1.heap.size := by omega
  have hbx := below_two hbw hz3
  clear hbw
  have hbw := hbx
  clear hbx
  clear hz3 hb3
  have hA3 : Below w3.heap.size w3 (w3.alloc (.cells #[.int .i64 0, .int .i64 0, .bool false] 30)) := (Below.refl _ _).alloc (Nat.le_refl _) _
  have xcc0 := kept hA3 cc0 (by omega)
  have xcc1 := kept hA3 cc1 (by omega)
  have xcc2 := kept hA3 cc2 (by omega)
  have xcs0 := kept hA3 cs0 (by omega)
  have xcs1 := kept hA3 cs1 (by omega)
  have xcs2 := kept hA3 cs2 (by omega)
  have xct0 := kept hA3 ct0 (by omega)
  have xct1 := kept hA3 ct1 (by omega)
  have xct2 := kept hA3 ct2 (by omega)
  have xcr0 := kept hA3 cr0 (by omega)
  have xcr1 := kept hA3 cr1 (by omega)
  have xcr2 := kept hA3 cr2 (by omega)
  have xcu0 := kept hA3 cu0 (by omega)
  have xcu1 := kept hA3 cu1 (by omega)
  have xcu2 := kept hA3 cu2 (by omega)
  clear hA3
  go_wp2_with fail
  refine (HJ.out _ 1 _ ?r2).mono ?_
  case r2 => exact RowS.one (by simp [go_sem]) (by simp [go_sem]) (by simp [go_sem]) (by simp [go_sem] <;> omega)
  rintro e w4 ⟨rfl, hb4⟩
  have z4 := hb4.size
  try simp at z4
  have hz4 := below_two (((Below.refl _ _).alloc (Nat.le_refl _) _).alloc (by simp <;> omega) _) hb4
  try clear nac nbc
  try clear nas nbs
  try clear nat nbt
  try clear nar nbr
  try clear nau nbu
  clear xcc0 xcc1 xcc2 xcs0 xcs1 xcs2 xct0 xct1 xct2 xcr0 xcr1 xcr2 xcu0 xcu1 xcu2
  replace cc0 := kept hz4 cc0 (by omega)
  replace cc1 := kept hz4 cc1 (by omega)
  replace cc2 := kept hz4 cc2 (by omega)
  replace cs0 := kept hz4 cs0 (by omega)
  replace cs1 := kept hz4 cs1 (by omega)
  replace cs2 := kept hz4 cs2 (by omega)
  replace ct0 := kept hz4 ct0 (by omega)
  replace ct1 := kept hz4 ct1 (by omega)
  replace ct2 := kept hz4 ct2 (by omega)
  replace cr0 := kept hz4 cr0 (by omega)
  replace cr1 := kept hz4 cr1 (by omega)
  replace cr2 := kept hz4 cr2 (by omega)
  replace cu0 := kept hz4 cu0 (by omega)
  replace cu1 := kept hz4 cu1 (by omega)
  replace cu2 := kept hz4 cu2 (by omega)
  have nac : ¬ w.heap.size = w4.heap.size := by omega
  have nbc : ¬ w4.heap.size = w.heap.size := by omega
  have nas : ¬ w.heap.size + 1 = w4.heap.size := by omega
  have nbs : ¬ w4.heap.size = w.heap.size + 1 := by omega
  have nat : ¬ w.heap.size + 1 + 1 = w4.heap.size := by omega
  have nbt : ¬ w4.heap.size = w.heap.size + 1 + 1 := by omega
  have nar : ¬ w.heap.size + 1 + 1 + 1 = w4.heap.size := by omega
  have nbr : ¬ w4.heap.size = w.heap.size + 1 + 1 + 1 := by omega
  have nau : ¬ w1.heap.size = w4.heap.size := by omega
  have nbu : ¬ w4.heap.size = w1.heap.size := by omega
  have hbx := below_two hbw hz4
  clear hbw
  have hbw := hbx
  clear hbx
  clear hz4 hb4
  go_wp2
  go_ret
  exact ⟨rfl, hbw⟩
set_option maxHeartbeats 3200000 in
theorem cb_go (p a b sx sy tx ty rx ry : Int) (sf tf rf : Bool) (w : World) (ux uy vx vy ox oy : Int) (uf vf of : Bool) (HA : ∀ w, Calls Try.prog 9 #[.agg #[.int .i64 p, .int .i64 a, .int .i64 b], .agg #[.int .i64 sx, .int .i64 sy, .bool sf], .agg #[.int .i64 tx, .int .i64 ty, .bool tf]] w fun e w' => e = .returned (.tuple #[.agg #[.int .i64 ux, .int .i64 uy, .bool uf], .int .i64 0]) ∧ Below w.heap.size w w') (HK : ∀ ap cp w, RowS w ap [⟨sx, sy, sf⟩, ⟨tx, ty, tf⟩] → Calls Try.prog 8 #[.agg #[.int .i64 p, .int .i64 a, .int .i64 b], .slice ap 2 cp] w fun e w' => e = .returned (.bool true) ∧ Below w.heap.size w w') (HB : ∀ w, Calls Try.prog 9 #[.agg #[.int .i64 p, .int .i64 a, .int .i64 b], .agg #[.int .i64 tx, .int .i64 ty, .bool tf], .agg #[.int .i64 rx, .int .i64 ry, .bool rf]] w fun e w' => e = .returned (.tuple #[.agg #[.int .i64 vx, .int .i64 vy, .bool vf], .int .i64 0]) ∧ Below w.heap.size w w') (HJ : ∀ ap cp w, RowS w ap [⟨rx, ry, rf⟩] → Calls Try.prog 8 #[.agg #[.int .i64 p, .int .i64 a, .int .i64 b], .slice ap 1 cp] w fun e w' => e = .returned (.bool true) ∧ Below w.heap.size w w') (HX : ∀ w, Calls Try.prog 9 #[.agg #[.int .i64 p, .int .i64 a, .int .i64 b], .agg #[.int .i64 ux, .int .i64 uy, .bool uf], .agg #[.int .i64 rx, .int .i64 ry, .bool rf]] w fun e w' => e = .returned (.tuple #[.agg #[.int .i64 ox, .int .i64 oy, .bool of], .int .i64 0]) ∧ Below w.heap.size w w') (HY : ∀ w, Calls Try.prog 9 #[.agg #[.int .i64 p, .int .i64 a, .int .i64 b], .agg #[.int .i64 sx, .int .i64 sy, .bool sf], .agg #[.int .i64 vx, .int .i64 vy, .bool vf]] w fun e w' => e = .returned (.tuple #[.agg #[.int .i64 ox, .int .i64 oy, .bool of], .int .i64 0]) ∧ Below w.heap.size w w') (HL : ∀ ap cp w, RowS w ap [⟨ox, oy, of⟩] → Calls Try.prog 8 #[.agg #[.int .i64 p, .int .i64 a, .int .i64 b], .slice ap 1 cp] w fun e w' => e = .returned (.bool true) ∧ Below w.heap.size w w') :
    Calls Try.prog 4 #[.agg #[.int .i64 p, .int .i64 a, .int .i64 b], .agg #[.int .i64 sx, .int .i64 sy, .bool sf], .agg #[.int .i64 tx, .int .i64 ty, .bool tf], .agg #[.int .i64 rx, .int .i64 ry, .bool rf]] w fun e w' => e = .returned (.bool true) ∧ Below w.heap.size w w' := by
  replace HA := Lib.hid HA
  replace HK := Lib.hid HK
  replace HB := Lib.hid HB
  replace HJ := Lib.hid HJ
  replace HX := Lib.hid HX
  replace HY := Lib.hid HY
  replace HL := Lib.hid HL
  go_enter Try.func4, Try.ntmps4
  go_wp2_with fail
  refine (HA.out _).mono ?_
  rintro e w1 ⟨rfl, hb1⟩
  have z1 := hb1.size
  try simp at z1
  have hz1 := below_two (((((Below.refl _ _).alloc (Nat.le_refl _) _).alloc (by simp <;> omega) _).alloc (by simp <;> omega) _).alloc (by simp <;> omega) _) hb1
  have cc0 := kept hb1 (b := w.heap.size) (o := 0) (v := .int .i64 p) (by simp [go_sem]) (by simp [go_sem] <;> omega)
  have cc1 := kept hb1 (b := w.heap.size) (o := 1) (v := .int .i64 a) (by simp [go_sem]) (by simp [go_sem] <;> omega)
  have cc2 := kept hb1 (b := w.heap.size) (o := 2) (v := .int .i64 b) (by simp [go_sem]) (by simp [go_sem] <;> omega)
  have cs0 := kept hb1 (b := w.heap.size + 1) (o := 0) (v := .int .i64 sx) (by simp [go_sem]) (by simp [go_sem] <;> omega)
  have cs1 := kept hb1 (b := w.heap.size + 1) (o := 1) (v := .int .i64 sy) (by simp [go_sem]) (by simp [go_sem] <;> omega)
  have cs2 := kept hb1 (b := w.heap.size + 1) (o := 2) (v := .bool sf) (by simp [go_sem]) (by simp [go_sem] <;> omega)
  have ct0 := kept hb1 (b := w.heap.size + 1 + 1) (o := 0) (v := .int .i64 tx) (by simp [go_sem]) (by simp [go_sem] <;> omega)
  have ct1 := kept hb1 (b := w.heap.size + 1 + 1) (o := 1) (v := .int .i64 ty) (by simp [go_sem]) (by simp [go_sem] <;> omega)
  have ct2 := kept hb1 (b := w.heap.size + 1 + 1) (o := 2) (v := .bool tf) (by simp [go_sem]) (by simp [go_sem] <;> omega)
  have cr0 := kept hb1 (b := w.heap.size + 1 + 1 + 1) (o := 0) (v := .int .i64 rx) (by simp [go_sem]) (by simp [go_sem] <;> omega)
  have cr1 := kept hb1 (b := w.heap.size + 1 + 1 + 1) (o := 1) (v := .int .i64 ry) (by simp [go_sem]) (by simp [go_sem] <;> omega)
  have cr2 := kept hb1 (b := w.heap.size + 1 + 1 + 1) (o := 2) (v := .bool rf) (by simp [go_sem]) (by simp [go_sem] <;> omega)
  have nac : ¬ w.heap.size = w1.heap.size := by omega
  have nbc : ¬ w1.heap.size = w.heap.size := by omega
  have nas : ¬ w.heap.size + 1 = w1.heap.size := by omega
  have nbs : ¬ w1.heap.size = w.heap.size + 1 := by omega
  have nat : ¬ w.heap.size + 1 + 1 = w1.heap.size := by omega
  have nbt : ¬ w1.heap.size = w.heap.size + 1 + 1 := by omega
  have nar : ¬ w.heap.size + 1 + 1 + 1 = w1.heap.size := by omega
  have nbr : ¬ w1.heap.size = w.heap.size + 1 + 1 + 1 := by omega
  have hbw := hz1
  clear hz1 hb1
  have hA1 : Below w1.heap.size w1 (w1.alloc (.cells #[.int .i64 ux, .int .i64 uy, .bool uf] 30)) := (Below.refl _ _).alloc (Nat.le_refl _) _
  have xcc0 := kept hA1 cc0 (by omega)
  have xcc1 := kept hA1 cc1 (by omega)
  have xcc2 := kept hA1 cc2 (by omega)
  have xcs0 := kept hA1 cs0 (by omega)
  have xcs1 := kept hA1 cs1 (by omega)
  have xcs2 := kept hA1 cs2 (by omega)
  have xct0 := kept hA1 ct0 (by omega)
  have xct1 := kept hA1 ct1 (by omega)
  have xct2 := kept hA1 ct2 (by omega)
  have xcr0 := kept hA1 cr0 (by omega)
  have xcr1 := kept hA1 cr1 (by omega)
  have xcr2 := kept hA1 cr2 (by omega)
  clear hA1
  go_wp2_with fail
  refine (HK.out _ 2 _ ?r1).mono ?_
  case r1 => exact RowS.two (by simp [go_sem]) (by simp [go_sem]) (by simp [go_sem]) (by simp [go_sem]) (by simp [go_sem]) (by simp [go_sem]) (by simp [go_sem] <;> omega)
  rintro e w2 ⟨rfl, hb2⟩
  have z2 := hb2.size
  try simp at z2
  have hz2 := below_two (((Below.refl _ _).alloc (Nat.le_refl _) _).alloc (by simp <;> omega) _) hb2
  try clear nac nbc
  try clear nas nbs
  try clear nat nbt
  try clear nar nbr
  clear xcc0 xcc1 xcc2 xcs0 xcs1 xcs2 xct0 xct1 xct2 xcr0 xcr1 xcr2
  replace cc0 := kept hz2 cc0 (by omega)
  replace cc1 := kept hz2 cc1 (by omega)
  replace cc2 := kept hz2 cc2 (by omega)
  replace cs0 := kept hz2 cs0 (by omega)
  replace cs1 := kept hz2 cs1 (by omega)
  replace cs2 := kept hz2 cs2 (by omega)
  replace ct0 := kept hz2 ct0 (by omega)
  replace ct1 := kept hz2 ct1 (by omega)
  replace ct2 := kept hz2 ct2 (by omega)
  replace cr0 := kept hz2 cr0 (by omega)
  replace cr1 := kept hz2 cr1 (by omega)
  replace cr2 := kept hz2 cr2 (by omega)
  have cu0 := kept hb2 (b := w1.heap.size) (o := 0) (v := .int .i64 ux) (by simp [go_sem]) (by simp [go_sem] <;> omega)
  have cu1 := kept hb2 (b := w1.heap.size) (o := 1) (v := .int .i64 uy) (by simp [go_sem]) (by simp [go_sem] <;> omega)
  have cu2 := kept hb2 (b := w1.heap.size) (o := 2) (v := .bool uf) (by simp [go_sem]) (by simp [go_sem] <;> omega)
  have nac : ¬ w.heap.size = w2.heap.size := by omega
  have nbc : ¬ w2.heap.size = w.heap.size := by omega
  have nas : ¬ w.heap.size + 1 = w2.heap.size := by omega
  have nbs : ¬ w2.heap.size = w.heap.size + 1 := by omega
  have nat : ¬ w.heap.size + 1 + 1 = w2.heap.size := by omega
  have nbt : ¬ w2.heap.size = w.heap.size + 1 + 1 := by omega
  have nar : ¬ w.heap.size + 1 + 1 + 1 = w2.heap.size := by omega
  have nbr : ¬ w2.heap.size = w.heap.size + 1 + 1 + 1 := by omega
  have nau : ¬ w1.heap.size = w2.heap.size := by omega
  have nbu : ¬ w2.heap.size = w1.heap.size := by omega
  have hbx := below_two hbw hz2
  clear hbw
  have hbw := hbx
  clear hbx
  clear hz2 hb2
  go_wp2_with fail
  refine (HB.out _).mono ?_
  rintro e w3 ⟨rfl, hb3⟩
  have z3 := hb3.size
  try simp at z3
  have hz3 := below_two ((Below.refl _ _)) hb3
  try clear nac nbc
  try clear nas nbs
  try clear nat nbt
  try clear nar nbr
  try clear nau nbu
  replace cc0 := kept hz3 cc0 (by omega)
  replace cc1 := kept hz3 cc1 (by omega)
  replace cc2 := kept hz3 cc2 (by omega)
  replace cs0 := kept hz3 cs0 (by omega)
  replace cs1 := kept hz3 cs1 (by omega)
  replace cs2 := kept hz3 cs2 (by omega)
  replace ct0 := kept hz3 ct0 (by omega)
  replace ct1 := kept hz3 ct1 (by omega)
  replace ct2 := kept hz3 ct2 (by omega)
  replace cr0 := kept hz3 cr0 (by omega)
  replace cr1 := kept hz3 cr1 (by omega)
  replace cr2 := kept hz3 cr2 (by omega)
  replace cu0 := kept hz3 cu0 (by omega)
  replace cu1 := kept hz3 cu1 (by omega)
  replace cu2 := kept hz3 cu2 (by omega)
  have nac : ¬ w.heap.size = w3.heap.size := by omega
  have nbc : ¬ w3.heap.size = w.heap.size := by omega
  have nas : ¬ w.heap.size + 1 = w3.heap.size := by omega
  have nbs : ¬ w3.heap.size = w.heap.size + 1 := by omega
  have nat : ¬ w.heap.size + 1 + 1 = w3.heap.size := by omega
  have nbt : ¬ w3.heap.size = w.heap.size + 1 + 1 := by omega
  have nar : ¬ w.heap.size + 1 + 1 + 1 = w3.heap.size := by omega
  have nbr : ¬ w3.heap.size = w.heap.size + 1 + 1 + 1 := by omega
  have nau : ¬ w1.heap.size = w3.heap.size := by omega
  have nbu : ¬ w3.heap.size = w1.heap.size := by omega
  have hbx := below_two hbw hz3
  clear hbw
  have hbw := hbx
  clear hbx
  clear hz3 hb3
  have hA3 : Below w3.heap.size w3 (w3.alloc (.cells #[.int .i64 vx, .int .i64 vy, .bool vf] 30)) := (Below.refl _ _).alloc (Nat.le_refl _) _
  have xcc0 := kept hA3 cc0 (by omega)
  have xcc1 := kept hA3 cc1 (by omega)
  have xcc2 := kept hA3 cc2 (by omega)
  have xcs0 := kept hA3 cs0 (by omega)
  have xcs1 := kept hA3 cs1 (by omega)
  have xcs2 := kept hA3 cs2 (by omega)
  have xct0 := kept hA3 ct0 (by omega)
  have xct1 := kept hA3 ct1 (by omega)
  have xct2 := kept hA3 ct2 (by omega)
  have xcr0 := kept hA3 cr0 (by omega)
  have xcr1 := kept hA3 cr1 (by omega)
  have xcr2 := kept hA3 cr2 (by omega)
  have xcu0 := kept hA3 cu0 (by omega)
  have xcu1 := kept hA3 cu1 (by omega)
  have xcu2 := kept hA3 cu2 (by omega)
  clear hA3
  go_wp2_with fail
  refine (HJ.out _ 1 _ ?r2).mono ?_
  case r2 => exact RowS.one (by simp [go_sem]) (by simp [go_sem]) (by simp [go_sem]) (by simp [go_sem] <;> omega)
  rintro e w4 ⟨rfl, hb4⟩
  have z4 := hb4.size
  try simp at z4
  have hz4 := below_two (((Below.refl _ _).alloc (Nat.le_refl _) _).alloc (by simp <;> omega) _) hb4
  try clear nac nbc
  try clear nas nbs
  try clear nat nbt
  try clear nar nbr
  try clear nau nbu
  clear xcc0 xcc1 xcc2 xcs0 xcs1 xcs2 xct0 xct1 xct2 xcr0 xcr1 xcr2 xcu0 xcu1 xcu2
  replace cc0 := kept hz4 cc0 (by omega)
  replace cc1 := kept hz4 cc1 (by omega)
  replace cc2 := kept hz4 cc2 (by omega)
  replace cs0 := kept hz4 cs0 (by omega)
  replace cs1 := kept hz4 cs1 (by omega)
  replace cs2 := kept hz4 cs2 (by omega)
  replace ct0 := kept hz4 ct0 (by omega)
  replace ct1 := kept hz4 ct1 (by omega)
  replace ct2 := kept hz4 ct2 (by omega)
  replace cr0 := kept hz4 cr0 (by omega)
  replace cr1 := kept hz4 cr1 (by omega)
  replace cr2 := kept hz4 cr2 (by omega)
  replace cu0 := kept hz4 cu0 (by omega)
  replace cu1 := kept hz4 cu1 (by omega)
  replace cu2 := kept hz4 cu2 (by omega)
  have cv0 := kept hb4 (b := w3.heap.size) (o := 0) (v := .int .i64 vx) (by simp [go_sem]) (by simp [go_sem] <;> omega)
  have cv1 := kept hb4 (b := w3.heap.size) (o := 1) (v := .int .i64 vy) (by simp [go_sem]) (by simp [go_sem] <;> omega)
  have cv2 := kept hb4 (b := w3.heap.size) (o := 2) (v := .bool vf) (by simp [go_sem]) (by simp [go_sem] <;> omega)
  have nac : ¬ w.heap.size = w4.heap.size := by omega
  have nbc : ¬ w4.heap.size = w.heap.size := by omega
  have nas : ¬ w.heap.size + 1 = w4.heap.size := by omega
  have nbs : ¬ w4.heap.size = w.heap.size + 1 := by omega
  have nat : ¬ w.heap.size + 1 + 1 = w4.heap.size := by omega
  have nbt : ¬ w4.heap.size = w.heap.size + 1 + 1 := by omega
  have nar : ¬ w.heap.size + 1 + 1 + 1 = w4.heap.size := by omega
  have nbr : ¬ w4.heap.size = w.heap.size + 1 + 1 + 1 := by omega
  have nau : ¬ w1.heap.size = w4.heap.size := by omega
  have nbu : ¬ w4.heap.size = w1.heap.size := by omega
  have nav : ¬ w3.heap.size = w4.heap.size := by omega
  have nbv : ¬ w4.heap.size = w3.heap.size := by omega
  have hbx := below_two hbw hz4
  clear hbw
  have hbw := hbx
  clear hbx
  clear hz4 hb4
  go_wp2_with fail
  refine (HX.out _).mono ?_
  rintro e w5 ⟨rfl, hb5⟩
  have z5 := hb5.size
  try simp at z5
  have hz5 := below_two ((Below.refl _ _)) hb5
  try clear nac nbc
  try clear nas nbs
  try clear nat nbt
  try clear nar nbr
  try clear nau nbu
  try clear nav nbv
  replace cc0 := kept hz5 cc0 (by omega)
  replace cc1 := kept hz5 cc1 (by omega)
  replace cc2 := kept hz5 cc2 (by omega)
  replace cs0 := kept hz5 cs0 (by omega)
  replace cs1 := kept hz5 cs1 (by omega)
  replace cs2 := kept hz5 cs2 (by omega)
  replace ct0 := kept hz5 ct0 (by omega)
  replace ct1 := kept hz5 ct1 (by omega)
  replace ct2 := kept hz5 ct2 (by omega)
  replace cr0 := kept hz5 cr0 (by omega)
  replace cr1 := kept hz5 cr1 (by omega)
  replace cr2 := kept hz5 cr2 (by omega)
  replace cu0 := kept hz5 cu0 (by omega)
  replace cu1 := kept hz5 cu1 (by omega)
  replace cu2 := kept hz5 cu2 (by omega)
  replace cv0 := kept hz5 cv0 (by omega)
  replace cv1 := kept hz5 cv1 (by omega)
  replace cv2 := kept hz5 cv2 (by omega)
  have nac : ¬ w.heap.size = w5.heap.size := by omega
  have nbc : ¬ w5.heap.size = w.heap.size := by omega
  have nas : ¬ w.heap.size + 1 = w5.heap.size := by omega
  have nbs : ¬ w5.heap.size = w.heap.size + 1 := by omega
  have nat : ¬ w.heap.size + 1 + 1 = w5.heap.size := by omega
  have nbt : ¬ w5.heap.size = w.heap.size + 1 + 1 := by omega
  have nar : ¬ w.heap.size + 1 + 1 + 1 = w5.heap.size := by omega
  have nbr : ¬ w5.heap.size = w.heap.size + 1 + 1 + 1 := by omega
  have nau : ¬ w1.heap.size = w5.heap.size := by omega
  have nbu : ¬ w5.heap.size = w1.heap.size := by omega
  have nav : ¬ w3.heap.size = w5.heap.size := by omega
  have nbv : ¬ w5.heap.size = w3.heap.size := by omega
  have hbx := below_two hbw hz5
  clear hbw
  have hbw := hbx
  clear hbx
  clear hz5 hb5
  have hA5 : Below w5.heap.size w5 (w5.alloc (.cells #[.int .i64 ox, .int .i64 oy, .bool of] 30)) := (Below.refl _ _).alloc (Nat.le_refl _) _
  have xcc0 := kept hA5 cc0 (by omega)
  have xcc1 := kept hA5 cc1 (by omega)
  have xcc2 := kept hA5 cc2 (by omega)
  have xcs0 := kept hA5 cs0 (by omega)
  have xcs1 := kept hA5 cs1 (by omega)
  have xcs2 := kept hA5 cs2 (by omega)
  have xct0 := kept hA5 ct0 (by omega)
  have xct1 := kept hA5 ct1 (by omega)
  have xct2 := kept hA5 ct2 (by omega)
  have xcr0 := kept hA5 cr0 (by omega)
  have xcr1 := kept hA5 cr1 (by omega)
  have xcr2 := kept hA5 cr2 (by omega)
  have xcu0 := kept hA5 cu0 (by omega)
  have xcu1 := kept hA5 cu1 (by omega)
  have xcu2 := kept hA5 cu2 (by omega)
  have xcv0 := kept hA5 cv0 (by omega)
  have xcv1 := kept hA5 cv1 (by omega)
  have xcv2 := kept hA5 cv2 (by omega)
  clear hA5
  go_wp2_with fail
  refine (HY.out _).mono ?_
  rintro e w6 ⟨rfl, hb6⟩
  have z6 := hb6.size
  try simp at z6
  have hz6 := below_two ((Below.refl _ _).alloc (Nat.le_refl _) _) hb6
  try clear nac nbc
  try clear nas nbs
  try clear nat nbt
  try clear nar nbr
  try clear nau nbu
  try clear nav nbv
  clear xcc0 xcc1 xcc2 xcs0 xcs1 xcs2 xct0 xct1 xct2 xcr0 xcr1 xcr2 xcu0 xcu1 xcu2 xcv0 xcv1 xcv2
  replace cc0 := kept hz6 cc0 (by omega)
  replace cc1 := kept hz6 cc1 (by omega)
  replace cc2 := kept hz6 cc2 (by omega)
  replace cs0 := kept hz6 cs0 (by omega)
  replace cs1 := kept hz6 cs1 (by omega)
  replace cs2 := kept hz6 cs2 (by omega)
  replace ct0 := kept hz6 ct0 (by omega)
  replace ct1 := kept hz6 ct1 (by omega)
  replace ct2 := kept hz6 ct2 (by omega)
  replace cr0 := kept hz6 cr0 (by omega)
  replace cr1 := kept hz6 cr1 (by omega)
  replace cr2 := kept hz6 cr2 (by omega)
  replace cu0 := kept hz6 cu0 (by omega)
  replace cu1 := kept hz6 cu1 (by omega)
  replace cu2 := kept hz6 cu2 (by omega)
  replace cv0 := kept hz6 cv0 (by omega)
  replace cv1 := kept hz6 cv1 (by omega)
  replace cv2 := kept hz6 cv2 (by omega)
  have co0 := kept hb6 (b := w5.heap.size) (o := 0) (v := .int .i64 ox) (by simp [go_sem]) (by simp [go_sem] <;> omega)
  have co1 := kept hb6 (b := w5.heap.size) (o := 1) (v := .int .i64 oy) (by simp [go_sem]) (by simp [go_sem] <;> omega)
  have co2 := kept hb6 (b := w5.heap.size) (o := 2) (v := .bool of) (by simp [go_sem]) (by simp [go_sem] <;> omega)
  have nac : ¬ w.heap.size = w6.heap.size := by omega
  have nbc : ¬ w6.heap.size = w.heap.size := by omega
  have nas : ¬ w.heap.size + 1 = w6.heap.size := by omega
  have nbs : ¬ w6.heap.size = w.heap.size + 1 := by omega
  have nat : ¬ w.heap.size + 1 + 1 = w6.heap.size := by omega
  have nbt : ¬ w6.heap.size = w.heap.size + 1 + 1 := by omega
  have nar : ¬ w.heap.size + 1 + 1 + 1 = w6.heap.size := by omega
  have nbr : ¬ w6.heap.size = w.heap.size + 1 + 1 + 1 := by omega
  have nau : ¬ w1.heap.size = w6.heap.size := by omega
  have nbu : ¬ w6.heap.size = w1.heap.size := by omega
  have nav : ¬ w3.heap.size = w6.heap.size := by omega
  have nbv : ¬ w6.heap.size = w3.heap.size := by omega
  have nao : ¬ w5.heap.size = w6.heap.size := by omega
  have nbo : ¬ w6.heap.size = w5.heap.size := by omega
  have hbx := below_two hbw hz6
  clear hbw
  have hbw := hbx
  clear hbx
  clear hz6 hb6
  have hA6 : Below w6.heap.size w6 (w6.alloc (.cells #[.int .i64 ox, .int .i64 oy, .bool of] 30)) := (Below.refl _ _).alloc (Nat.le_refl _) _
  have xcc0 := kept hA6 cc0 (by omega)
  have xcc1 := kept hA6 cc1 (by omega)
  have xcc2 := kept hA6 cc2 (by omega)
  have xcs0 := kept hA6 cs0 (by omega)
  have xcs1 := kept hA6 cs1 (by omega)
  have xcs2 := kept hA6 cs2 (by omega)
  have xct0 := kept hA6 ct0 (by omega)
  have xct1 := kept hA6 ct1 (by omega)
  have xct2 := kept hA6 ct2 (by omega)
  have xcr0 := kept hA6 cr0 (by omega)
  have xcr1 := kept hA6 cr1 (by omega)
  have xcr2 := kept hA6 cr2 (by omega)
  have xcu0 := kept hA6 cu0 (by omega)
  have xcu1 := kept hA6 cu1 (by omega)
  have xcu2 := kept hA6 cu2 (by omega)
  have xcv0 := kept hA6 cv0 (by omega)
  have xcv1 := kept hA6 cv1 (by omega)
  have xcv2 := kept hA6 cv2 (by omega)
  have xco0 := kept hA6 co0 (by omega)
  have xco1 := kept hA6 co1 (by omega)
  have xco2 := kept hA6 co2 (by omega)
  clear hA6
  go_wp2_with fail
  refine (HL.out _ 1 _ ?r3).mono ?_
  case r3 => exact RowS.one (by simp [go_sem]) (by simp [go_sem]) (by simp [go_sem]) (by simp [go_sem] <;> omega)
  rintro e w7 ⟨rfl, hb7⟩
  have z7 := hb7.size
  try simp at z7
  have hz7 := below_two (((Below.refl _ _).alloc (Nat.le_refl _) _).alloc (by simp <;> omega) _) hb7
  try clear nac nbc
  try clear nas nbs
  try clear nat nbt
  try clear nar nbr
  try clear nau nbu
  try clear nav nbv
  try clear nao nbo
  clear xcc0 xcc1 xcc2 xcs0 xcs1 xcs2 xct0 xct1 xct2 xcr0 xcr1 xcr2 xcu0 xcu1 xcu2 xcv0 xcv1 xcv2 xco0 xco1 xco2
  replace cc0 := kept hz7 cc0 (by omega)
  replace cc1 := kept hz7 cc1 (by omega)
  replace cc2 := kept hz7 cc2 (by omega)
  replace cs0 := kept hz7 cs0 (by omega)
  replace cs1 := kept hz7 cs1 (by omega)
  replace cs2 := kept hz7 cs2 (by omega)
  replace ct0 := kept hz7 ct0 (by omega)
  replace ct1 := kept hz7 ct1 (by omega)
  replace ct2 := kept hz7 ct2 (by omega)
  replace cr0 := kept hz7 cr0 (by omega)
  replace cr1 := kept hz7 cr1 (by omega)
  replace cr2 := kept hz7 cr2 (by omega)
  replace cu0 := kept hz7 cu0 (by omega)
  replace cu1 := kept hz7 cu1 (by omega)
  replace cu2 := kept hz7 cu2 (by omega)
  replace cv0 := kept hz7 cv0 (by omega)
  replace cv1 := kept hz7 cv1 (by omega)
  replace cv2 := kept hz7 cv2 (by omega)
  replace co0 := kept hz7 co0 (by omega)
  replace co1 := kept hz7 co1 (by omega)
  replace co2 := kept hz7 co2 (by omega)
  have cq0 := kept hb7 (b := w6.heap.size) (o := 0) (v := .int .i64 ox) (by simp [go_sem]) (by simp [go_sem] <;> omega)
  have cq1 := kept hb7 (b := w6.heap.size) (o := 1) (v := .int .i64 oy) (by simp [go_sem]) (by simp [go_sem] <;> omega)
  have cq2 := kept hb7 (b := w6.heap.size) (o := 2) (v := .bool of) (by simp [go_sem]) (by simp [go_sem] <;> omega)
  have nac : ¬ w.heap.size = w7.heap.size := by omega
  have nbc : ¬ w7.heap.size = w.heap.size := by omega
  have nas : ¬ w.heap.size + 1 = w7.heap.size := by omega
  have nbs : ¬ w7.heap.size = w.heap.size + 1 := by omega
  have nat : ¬ w.heap.size + 1 + 1 = w7.heap.size := by omega
  have nbt : ¬ w7.heap.size = w.heap.size + 1 + 1 := by omega
  have nar : ¬ w.heap.size + 1 + 1 + 1 = w7.heap.size := by omega
  have nbr : ¬ w7.heap.size = w.heap.size + 1 + 1 + 1 := by omega
  have nau : ¬ w1.heap.size = w7.heap.size := by omega
  have nbu : ¬ w7.heap.size = w1.heap.size := by omega
  have nav : ¬ w3.heap.size = w7.heap.size := by omega
  have nbv : ¬ w7.heap.size = w3.heap.size := by omega
  have nao : ¬ w5.heap.size = w7.heap.size := by omega
  have nbo : ¬ w7.heap.size = w5.heap.size := by omega
  have naq : ¬ w6.heap.size = w7.heap.size := by omega
  have nbq : ¬ w7.heap.size = w6.heap.size := by omega
  have hbx := below_two hbw hz7
  clear hbw
  have hbw := hbx
  clear hbx
  clear hz7 hb7
  go_wp2
  go_ret
  exact ⟨rfl, hbw⟩
theorem WCurveBrackets (a0x : Int) (a0y : Int) (a0z : Int) (a1x : Int) (a1y : Int) (a1z : Bool) (a2x : Int) (a2y : Int) (a2z : Bool) (a3x : Int) (a3y : Int) (a3z : Bool) (w : World) (w0x : (Lit.int .i64 a0x).wf = true) (w0y : (Lit.int .i64 a0y).wf = true) (w0z : (Lit.int .i64 a0z).wf = true) (w1x : (Lit.int .i64 a1x).wf = true) (w1y : (Lit.int .i64 a1y).wf = true) (w2x : (Lit.int .i64 a2x).wf = true) (w2y : (Lit.int .i64 a2y).wf = true) (w3x : (Lit.int .i64 a3x).wf = true) (w3y : (Lit.int .i64 a3y).wf = true) :
    Calls Try.prog 4 #[.agg #[.int .i64 a0x, .int .i64 a0y, .int .i64 a0z], .agg #[.int .i64 a1x, .int .i64 a1y, .bool a1z], .agg #[.int .i64 a2x, .int .i64 a2y, .bool a2z], .agg #[.int .i64 a3x, .int .i64 a3y, .bool a3z]] w fun e w' => e = .returned (.bool true) ∧ Below w.heap.size w w' := by
  have HK1 := fun ap cp w hr => keep_spots a0x a0y a0z ap cp [⟨a1x, a1y, a1z⟩, ⟨a2x, a2y, a2z⟩] w hr (by simp)
  have HK2 := fun ap cp w hr => keep_spots a0x a0y a0z ap cp [⟨a3x, a3y, a3z⟩] w hr (by simp)
  by_cases h : spE a0x a0y a0z [⟨a1x, a1y, a1z⟩, ⟨a2x, a2y, a2z⟩] = 0
  · rw [h] at HK1
    obtain ⟨hc, hm⟩ := spE_zero h
    have hp := hc.pr
    have h5 : 5 ≤ a0x.toNat := by have := hc.p5; omega
    have hs := hm _ (List.mem_cons_self ..)
    have ht := hm ⟨a2x, a2y, a2z⟩ (by simp)
    have hu := OnC.add hp h5 hs ht
    have c0 := spE_cv h
    have HA := fun w => curve_Add a0x a0y a0z ⟨a1x, a1y, a1z⟩ ⟨a2x, a2y, a2z⟩ w h
    by_cases h2 : spE a0x a0y a0z [⟨a3x, a3y, a3z⟩] = 0
    · rw [h2] at HK2
      have hr := (spE_zero h2).2 _ (List.mem_cons_self ..)
      have h3 : spE a0x a0y a0z [⟨a2x, a2y, a2z⟩, ⟨a3x, a3y, a3z⟩] = 0 := spE_of c0 (by intro s h; simp at h; rcases h with rfl | rfl; exact ht; exact hr)
      have hv := OnC.add hp h5 ht hr
      have h4 : spE a0x a0y a0z [addS a0x.toNat a0y ⟨a1x, a1y, a1z⟩ ⟨a2x, a2y, a2z⟩, ⟨a3x, a3y, a3z⟩] = 0 := spE_of c0 (by intro s h; simp only [List.mem_cons, List.not_mem_nil, or_false] at h; rcases h with rfl | rfl; exact hu; exact hr)
      have h6 : spE a0x a0y a0z [⟨a1x, a1y, a1z⟩, addS a0x.toNat a0y ⟨a2x, a2y, a2z⟩ ⟨a3x, a3y, a3z⟩] = 0 := spE_of c0 (by intro s h; simp only [List.mem_cons, List.not_mem_nil, or_false] at h; rcases h with rfl | rfl; exact hs; exact hv)
      have h7 : spE a0x a0y a0z [addS a0x.toNat a0y (addS a0x.toNat a0y ⟨a1x, a1y, a1z⟩ ⟨a2x, a2y, a2z⟩) ⟨a3x, a3y, a3z⟩] = 0 := spE_of c0 (by intro s h; simp only [List.mem_cons, List.not_mem_nil, or_false] at h; subst h; exact OnC.add hp h5 hu hr)
      have HY := fun w => curve_Add a0x a0y a0z ⟨a1x, a1y, a1z⟩ (addS a0x.toNat a0y ⟨a2x, a2y, a2z⟩ ⟨a3x, a3y, a3z⟩) w h6
      rw [← add_assoc hp h5 hc.disc hs ht hr] at HY
      have HL := fun ap cp w hr => keep_spots a0x a0y a0z ap cp [addS a0x.toNat a0y (addS a0x.toNat a0y ⟨a1x, a1y, a1z⟩ ⟨a2x, a2y, a2z⟩) ⟨a3x, a3y, a3z⟩] w hr (by simp)
      rw [h7] at HL
      exact cb_go a0x a0y a0z a1x a1y a2x a2y a3x a3y a1z a2z a3z w _ _ _ _ _ _ _ _ _ HA HK1 (fun w => curve_Add a0x a0y a0z ⟨a2x, a2y, a2z⟩ ⟨a3x, a3y, a3z⟩ w h3) HK2 (fun w => curve_Add a0x a0y a0z (addS a0x.toNat a0y ⟨a1x, a1y, a1z⟩ ⟨a2x, a2y, a2z⟩) ⟨a3x, a3y, a3z⟩ w h4) HY HL
    · have h3 : ¬ spE a0x a0y a0z [⟨a2x, a2y, a2z⟩, ⟨a3x, a3y, a3z⟩] = 0 := fun g => h2 (spE_of c0 (by intro s h; simp at h; subst h; exact (spE_zero g).2 _ (by simp)))
      rw [beq_eq_false_iff_ne.2 h2] at HK2
      exact cb_no2 a0x a0y a0z a1x a1y a2x a2y a3x a3y a1z a2z a3z w _ _ _ _ h3 HA HK1 (fun w => curve_Add_no a0x a0y a0z ⟨a2x, a2y, a2z⟩ ⟨a3x, a3y, a3z⟩ w h3) HK2
  · rw [beq_eq_false_iff_ne.2 h] at HK1
    exact cb_no1 a0x a0y a0z a1x a1y a2x a2y a3x a3y a1z a2z a3z w _ h (fun w => curve_Add_no a0x a0y a0z ⟨a1x, a1y, a1z⟩ ⟨a2x, a2y, a2z⟩ w h) HK1
end Go.Proofs.Ytnheboamjfahaaa

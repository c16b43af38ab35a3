/- The walk of CurveLagrange. -/
import Derived.Test.YtnheboamjfahaaaCur7
namespace Go.Proofs.Ytnheboamjfahaaa
open Go.RowKit
set_option linter.unusedVariables false
set_option linter.unusedSimpArgs false

set_option maxHeartbeats 1600000 in
theorem cl_no (p a b sx sy k n y x : Int) (sf : Bool) (w : World) (h : ¬ x = 0) (HC : ∀ w, Calls Try.prog 7 #[.agg #[.int .i64 p, .int .i64 a, .int .i64 b]] w fun e w' => e = .returned (.tuple #[.int .i64 n, .int .i64 y]) ∧ Below w.heap.size w w') (HT : ∀ w, Calls Try.prog 11 #[.agg #[.int .i64 p, .int .i64 a, .int .i64 b], .int .i64 (n), .agg #[.int .i64 sx, .int .i64 sy, .bool sf]] w fun e w' => e = .returned (.tuple #[.agg #[.int .i64 0, .int .i64 0, .bool false], .int .i64 x]) ∧ Below w.heap.size w w') (HK : ∀ ap cp w, RowS w ap [⟨sx, sy, sf⟩] → Calls Try.prog 8 #[.agg #[.int .i64 p, .int .i64 a, .int .i64 b], .slice ap 1 cp] w fun e w' => e = .returned (.bool false) ∧ Below w.heap.size w w') :
    Calls Try.prog 6 #[.agg #[.int .i64 p, .int .i64 a, .int .i64 b], .agg #[.int .i64 sx, .int .i64 sy, .bool sf], .int .i64 k] w fun e w' => e = .returned (.bool true) ∧ Below w.heap.size w w' := by
  have e1 : (x == 0) = false := by simpa using h
  have e2 : (x != 0) = true := by simpa using h
  replace HC := Lib.hid HC
  replace HT := Lib.hid HT
  replace HK := Lib.hid HK
  go_enter Try.func6, Try.ntmps6
  go_wp2_with fail
  refine (HC.out _).mono ?_
  rintro e w1 ⟨rfl, hb1⟩
  have z1 := hb1.size
  try simp at z1
  have hz1 := below_two (((Below.refl _ _).alloc (Nat.le_refl _) _).alloc (by simp <;> omega) _) hb1
  have cc0 := kept hb1 (b := w.heap.size) (o := 0) (v := .int .i64 p) (by simp [go_sem]) (by simp [go_sem] <;> omega)
  have cc1 := kept hb1 (b := w.heap.size) (o := 1) (v := .int .i64 a) (by simp [go_sem]) (by simp [go_sem] <;> omega)
  have cc2 := kept hb1 (b := w.heap.size) (o := 2) (v := .int .i64 b) (by simp [go_sem]) (by simp [go_sem] <;> omega)
  have cs0 := kept hb1 (b := w.heap.size + 1) (o := 0) (v := .int .i64 sx) (by simp [go_sem]) (by simp [go_sem] <;> omega)
  have cs1 := kept hb1 (b := w.heap.size + 1) (o := 1) (v := .int .i64 sy) (by simp [go_sem]) (by simp [go_sem] <;> omega)
  have cs2 := kept hb1 (b := w.heap.size + 1) (o := 2) (v := .bool sf) (by simp [go_sem]) (by simp [go_sem] <;> omega)
  have nac : ¬ w.heap.size = w1.heap.size := by omega
  have nbc : ¬ w1.heap.size = w.heap.size := by omega
  have nas : ¬ w.heap.size + 1 = w1.heap.size := by omega
  have nbs : ¬ w1.heap.size = w.heap.size + 1 := by omega
  have hbw := hz1
  clear hz1 hb1
  go_wp2_with fail
  refine (HT.out _).mono ?_
  rintro e w2 ⟨rfl, hb2⟩
  have z2 := hb2.size
  try simp at z2
  have hz2 := below_two ((Below.refl _ _)) hb2
  try clear nac nbc
  try clear nas nbs
  replace cc0 := kept hz2 cc0 (by omega)
  replace cc1 := kept hz2 cc1 (by omega)
  replace cc2 := kept hz2 cc2 (by omega)
  replace cs0 := kept hz2 cs0 (by omega)
  replace cs1 := kept hz2 cs1 (by omega)
  replace cs2 := kept hz2 cs2 (by omega)
  have nac : ¬ w.heap.size = w2.heap.size := by omega
  have nbc : ¬ w2.heap.size = w.heap.size := by omega
  have nas : ¬ w.heap.size + 1 = w2.heap.size := by omega
  have nbs : ¬ w2.heap.size = w.heap.size + 1 := by omega
  have hbx := below_two hbw hz2
  clear hbw
  have hbw := hbx
  clear hbx
  clear hz2 hb2
  have hA2 : Below w2.heap.size w2 (w2.alloc (.cells #[.int .i64 0, .int .i64 0, .bool false] 30)) := (Below.refl _ _).alloc (Nat.le_refl _) _
  have xcc0 := kept hA2 cc0 (by omega)
  have xcc1 := kept hA2 cc1 (by omega)
  have xcc2 := kept hA2 cc2 (by omega)
  have xcs0 := kept hA2 cs0 (by omega)
  have xcs1 := kept hA2 cs1 (by omega)
  have xcs2 := kept hA2 cs2 (by omega)
  clear hA2
  go_wp2_with fail
  refine (HK.out _ 1 _ ?r1).mono ?_
  case r1 => exact RowS.one (by simp [go_sem]) (by simp [go_sem]) (by simp [go_sem]) (by simp [go_sem] <;> omega)
  rintro e w3 ⟨rfl, hb3⟩
  have z3 := hb3.size
  try simp at z3
  have hz3 := below_two (((Below.refl _ _).alloc (Nat.le_refl _) _).alloc (by simp <;> omega) _) hb3
  try clear nac nbc
  try clear nas nbs
  clear xcc0 xcc1 xcc2 xcs0 xcs1 xcs2
  replace cc0 := kept hz3 cc0 (by omega)
  replace cc1 := kept hz3 cc1 (by omega)
  replace cc2 := kept hz3 cc2 (by omega)
  replace cs0 := kept hz3 cs0 (by omega)
  replace cs1 := kept hz3 cs1 (by omega)
  replace cs2 := kept hz3 cs2 (by omega)
  have nac : ¬ w.heap.size = w3.heap.size := by omega
  have nbc : ¬ w3.heap.size = w.heap.size := by omega
  have nas : ¬ w.heap.size + 1 = w3.heap.size := by omega
  have nbs : ¬ w3.heap.size = w.heap.size + 1 := by omega
  have hbx := below_two hbw hz3
  clear hbw
  have hbw := hbx
  clear hbx
  clear hz3 hb3
  go_wp2
  go_ret
  exact ⟨rfl, hbw⟩
set_option maxHeartbeats 1600000 in
theorem cl_neg (p a b sx sy k n : Int) (sf : Bool) (w : World) (n1 : 0 ≤ n) (n2 : n ≤ 2147483648) (h : k < 0) (HC : ∀ w, Calls Try.prog 7 #[.agg #[.int .i64 p, .int .i64 a, .int .i64 b]] w fun e w' => e = .returned (.tuple #[.int .i64 n, .int .i64 0]) ∧ Below w.heap.size w w') (HT : ∀ w, Calls Try.prog 11 #[.agg #[.int .i64 p, .int .i64 a, .int .i64 b], .int .i64 (n), .agg #[.int .i64 sx, .int .i64 sy, .bool sf]] w fun e w' => e = .returned (.tuple #[.agg #[.int .i64 0, .int .i64 0, .bool true], .int .i64 0]) ∧ Below w.heap.size w w') (HK : ∀ ap cp w, RowS w ap [⟨sx, sy, sf⟩] → Calls Try.prog 8 #[.agg #[.int .i64 p, .int .i64 a, .int .i64 b], .slice ap 1 cp] w fun e w' => e = .returned (.bool true) ∧ Below w.heap.size w w') :
    Calls Try.prog 6 #[.agg #[.int .i64 p, .int .i64 a, .int .i64 b], .agg #[.int .i64 sx, .int .i64 sy, .bool sf], .int .i64 k] w fun e w' => e = .returned (.bool true) ∧ Below w.heap.size w w' := by
  replace HC := Lib.hid HC
  replace HT := Lib.hid HT
  replace HK := Lib.hid HK
  go_enter Try.func6, Try.ntmps6
  go_wp2_with fail
  refine (HC.out _).mono ?_
  rintro e w1 ⟨rfl, hb1⟩
  have z1 := hb1.size
  try simp at z1
  have hz1 := below_two (((Below.refl _ _).alloc (Nat.le_refl _) _).alloc (by simp <;> omega) _) hb1
  have cc0 := kept hb1 (b := w.heap.size) (o := 0) (v := .int .i64 p) (by simp [go_sem]) (by simp [go_sem] <;> omega)
  have cc1 := kept hb1 (b := w.heap.size) (o := 1) (v := .int .i64 a) (by simp [go_sem]) (by simp [go_sem] <;> omega)
  have cc2 := kept hb1 (b := w.heap.size) (o := 2) (v := .int .i64 b) (by simp [go_sem]) (by simp [go_sem] <;> omega)
  have cs0 := kept hb1 (b := w.heap.size + 1) (o := 0) (v := .int .i64 sx) (by simp [go_sem]) (by simp [go_sem] <;> omega)
  have cs1 := kept hb1 (b := w.heap.size + 1) (o := 1) (v := .int .i64 sy) (by simp [go_sem]) (by simp [go_sem] <;> omega)
  have cs2 := kept hb1 (b := w.heap.size + 1) (o := 2) (v := .bool sf) (by simp [go_sem]) (by simp [go_sem] <;> omega)
  have nac : ¬ w.heap.size = w1.heap.size := by omega
  have nbc : ¬ w1.heap.size = w.heap.size := by omega
  have nas : ¬ w.heap.size + 1 = w1.heap.size := by omega
  have nbs : ¬ w1.heap.size = w.heap.size + 1 := by omega
  have hbw := hz1
  clear hz1 hb1
  go_wp2_with fail
  refine (HT.out _).mono ?_
  rintro e w2 ⟨rfl, hb2⟩
  have z2 := hb2.size
  try simp at z2
  have hz2 := below_two ((Below.refl _ _)) hb2
  try clear nac nbc
  try clear nas nbs
  replace cc0 := kept hz2 cc0 (by omega)
  replace cc1 := kept hz2 cc1 (by omega)
  replace cc2 := kept hz2 cc2 (by omega)
  replace cs0 := kept hz2 cs0 (by omega)
  replace cs1 := kept hz2 cs1 (by omega)
  replace cs2 := kept hz2 cs2 (by omega)
  have nac : ¬ w.heap.size = w2.heap.size := by omega
  have nbc : ¬ w2.heap.size = w.heap.size := by omega
  have nas : ¬ w.heap.size + 1 = w2.heap.size := by omega
  have nbs : ¬ w2.heap.size = w.heap.size + 1 := by omega
  have hbx := below_two hbw hz2
  clear hbw
  have hbw := hbx
  clear hbx
  clear hz2 hb2
  have hA2 : Below w2.heap.size w2 (w2.alloc (.cells #[.int .i64 0, .int .i64 0, .bool true] 30)) := (Below.refl _ _).alloc (Nat.le_refl _) _
  have xcc0 := kept hA2 cc0 (by omega)
  have xcc1 := kept hA2 cc1 (by omega)
  have xcc2 := kept hA2 cc2 (by omega)
  have xcs0 := kept hA2 cs0 (by omega)
  have xcs1 := kept hA2 cs1 (by omega)
  have xcs2 := kept hA2 cs2 (by omega)
  clear hA2
  go_wp2_with fail
  refine (HK.out _ 1 _ ?r1).mono ?_
  case r1 => exact RowS.one (by simp [go_sem]) (by simp [go_sem]) (by simp [go_sem]) (by simp [go_sem] <;> omega)
  rintro e w3 ⟨rfl, hb3⟩
  have z3 := hb3.size
  try simp at z3
  have hz3 := below_two (((Below.refl _ _).alloc (Nat.le_refl _) _).alloc (by simp <;> omega) _) hb3
  try clear nac nbc
  try clear nas nbs
  clear xcc0 xcc1 xcc2 xcs0 xcs1 xcs2
  replace cc0 := kept hz3 cc0 (by omega)
  replace cc1 := kept hz3 cc1 (by omega)
  replace cc2 := kept hz3 cc2 (by omega)
  replace cs0 := kept hz3 cs0 (by omega)
  replace cs1 := kept hz3 cs1 (by omega)
  replace cs2 := kept hz3 cs2 (by omega)
  have cm0 := kept hb3 (b := w2.heap.size) (o := 0) (v := .int .i64 0) (by simp [go_sem]) (by simp [go_sem] <;> omega)
  have cm1 := kept hb3 (b := w2.heap.size) (o := 1) (v := .int .i64 0) (by simp [go_sem]) (by simp [go_sem] <;> omega)
  have cm2 := kept hb3 (b := w2.heap.size) (o := 2) (v := .bool true) (by simp [go_sem]) (by simp [go_sem] <;> omega)
  have nac : ¬ w.heap.size = w3.heap.size := by omega
  have nbc : ¬ w3.heap.size = w.heap.size := by omega
  have nas : ¬ w.heap.size + 1 = w3.heap.size := by omega
  have nbs : ¬ w3.heap.size = w.heap.size + 1 := by omega
  have nam : ¬ w2.heap.size = w3.heap.size := by omega
  have nbm : ¬ w3.heap.size = w2.heap.size := by omega
  have hbx := below_two hbw hz3
  clear hbw
  have hbw := hbx
  clear hbx
  clear hz3 hb3
  go_wp2
  go_ret
  exact ⟨rfl, hbw⟩
set_option maxHeartbeats 1600000 in
theorem cl_big (p a b sx sy k n : Int) (sf : Bool) (w : World) (n1 : 0 ≤ n) (n2 : n ≤ 2147483648) (h0 : 0 ≤ k) (h : 2147483648 - n < k) (HC : ∀ w, Calls Try.prog 7 #[.agg #[.int .i64 p, .int .i64 a, .int .i64 b]] w fun e w' => e = .returned (.tuple #[.int .i64 n, .int .i64 0]) ∧ Below w.heap.size w w') (HT : ∀ w, Calls Try.prog 11 #[.agg #[.int .i64 p, .int .i64 a, .int .i64 b], .int .i64 (n), .agg #[.int .i64 sx, .int .i64 sy, .bool sf]] w fun e w' => e = .returned (.tuple #[.agg #[.int .i64 0, .int .i64 0, .bool true], .int .i64 0]) ∧ Below w.heap.size w w') (HK : ∀ ap cp w, RowS w ap [⟨sx, sy, sf⟩] → Calls Try.prog 8 #[.agg #[.int .i64 p, .int .i64 a, .int .i64 b], .slice ap 1 cp] w fun e w' => e = .returned (.bool true) ∧ Below w.heap.size w w') :
    Calls Try.prog 6 #[.agg #[.int .i64 p, .int .i64 a, .int .i64 b], .agg #[.int .i64 sx, .int .i64 sy, .bool sf], .int .i64 k] w fun e w' => e = .returned (.bool true) ∧ Below w.heap.size w w' := by
  replace HC := Lib.hid HC
  replace HT := Lib.hid HT
  replace HK := Lib.hid HK
  go_enter Try.func6, Try.ntmps6
  go_wp2_with fail
  refine (HC.out _).mono ?_
  rintro e w1 ⟨rfl, hb1⟩
  have z1 := hb1.size
  try simp at z1
  have hz1 := below_two (((Below.refl _ _).alloc (Nat.le_refl _) _).alloc (by simp <;> omega) _) hb1
  have cc0 := kept hb1 (b := w.heap.size) (o := 0) (v := .int .i64 p) (by simp [go_sem]) (by simp [go_sem] <;> omega)
  have cc1 := kept hb1 (b := w.heap.size) (o := 1) (v := .int .i64 a) (by simp [go_sem]) (by simp [go_sem] <;> omega)
  have cc2 := kept hb1 (b := w.heap.size) (o := 2) (v := .int .i64 b) (by simp [go_sem]) (by simp [go_sem] <;> omega)
  have cs0 := kept hb1 (b := w.heap.size + 1) (o := 0) (v := .int .i64 sx) (by simp [go_sem]) (by simp [go_sem] <;> omega)
  have cs1 := kept hb1 (b := w.heap.size + 1) (o := 1) (v := .int .i64 sy) (by simp [go_sem]) (by simp [go_sem] <;> omega)
  have cs2 := kept hb1 (b := w.heap.size + 1) (o := 2) (v := .bool sf) (by simp [go_sem]) (by simp [go_sem] <;> omega)
  have nac : ¬ w.heap.size = w1.heap.size := by omega
  have nbc : ¬ w1.heap.size = w.heap.size := by omega
  have nas : ¬ w.heap.size + 1 = w1.heap.size := by omega
  have nbs : ¬ w1.heap.size = w.heap.size + 1 := by omega
  have hbw := hz1
  clear hz1 hb1
  go_wp2_with fail
  refine (HT.out _).mono ?_
  rintro e w2 ⟨rfl, hb2⟩
  have z2 := hb2.size
  try simp at z2
  have hz2 := below_two ((Below.refl _ _)) hb2
  try clear nac nbc
  try clear nas nbs
  replace cc0 := kept hz2 cc0 (by omega)
  replace cc1 := kept hz2 cc1 (by omega)
  replace cc2 := kept hz2 cc2 (by omega)
  replace cs0 := kept hz2 cs0 (by omega)
  replace cs1 := kept hz2 cs1 (by omega)
  replace cs2 := kept hz2 cs2 (by omega)
  have nac : ¬ w.heap.size = w2.heap.size := by omega
  have nbc : ¬ w2.heap.size = w.heap.size := by omega
  have nas : ¬ w.heap.size + 1 = w2.heap.size := by omega
  have nbs : ¬ w2.heap.size = w.heap.size + 1 := by omega
  have hbx := below_two hbw hz2
  clear hbw
  have hbw := hbx
  clear hbx
  clear hz2 hb2
  have hA2 : Below w2.heap.size w2 (w2.alloc (.cells #[.int .i64 0, .int .i64 0, .bool true] 30)) := (Below.refl _ _).alloc (Nat.le_refl _) _
  have xcc0 := kept hA2 cc0 (by omega)
  have xcc1 := kept hA2 cc1 (by omega)
  have xcc2 := kept hA2 cc2 (by omega)
  have xcs0 := kept hA2 cs0 (by omega)
  have xcs1 := kept hA2 cs1 (by omega)
  have xcs2 := kept hA2 cs2 (by omega)
  clear hA2
  go_wp2_with fail
  refine (HK.out _ 1 _ ?r1).mono ?_
  case r1 => exact RowS.one (by simp [go_sem]) (by simp [go_sem]) (by simp [go_sem]) (by simp [go_sem] <;> omega)
  rintro e w3 ⟨rfl, hb3⟩
  have z3 := hb3.size
  try simp at z3
  have hz3 := below_two (((Below.refl _ _).alloc (Nat.le_refl _) _).alloc (by simp <;> omega) _) hb3
  try clear nac nbc
  try clear nas nbs
  clear xcc0 xcc1 xcc2 xcs0 xcs1 xcs2
  replace cc0 := kept hz3 cc0 (by omega)
  replace cc1 := kept hz3 cc1 (by omega)
  replace cc2 := kept hz3 cc2 (by omega)
  replace cs0 := kept hz3 cs0 (by omega)
  replace cs1 := kept hz3 cs1 (by omega)
  replace cs2 := kept hz3 cs2 (by omega)
  have cm0 := kept hb3 (b := w2.heap.size) (o := 0) (v := .int .i64 0) (by simp [go_sem]) (by simp [go_sem] <;> omega)
  have cm1 := kept hb3 (b := w2.heap.size) (o := 1) (v := .int .i64 0) (by simp [go_sem]) (by simp [go_sem] <;> omega)
  have cm2 := kept hb3 (b := w2.heap.size) (o := 2) (v := .bool true) (by simp [go_sem]) (by simp [go_sem] <;> omega)
  have nac : ¬ w.heap.size = w3.heap.size := by omega
  have nbc : ¬ w3.heap.size = w.heap.size := by omega
  have nas : ¬ w.heap.size + 1 = w3.heap.size := by omega
  have nbs : ¬ w3.heap.size = w.heap.size + 1 := by omega
  have nam : ¬ w2.heap.size = w3.heap.size := by omega
  have nbm : ¬ w3.heap.size = w2.heap.size := by omega
  have hbx := below_two hbw hz3
  clear hbw
  have hbw := hbx
  clear hbx
  clear hz3 hb3
  go_wp2
  go_ret
  exact ⟨rfl, hbw⟩
set_option maxHeartbeats 3200000 in
theorem cl_go (p a b sx sy k n ux uy : Int) (sf uf : Bool) (w : World) (n1 : 0 ≤ n) (n2 : n ≤ 2147483648) (k0 : 0 ≤ k) (k1 : k ≤ 2147483648 - n) (HC : ∀ w, Calls Try.prog 7 #[.agg #[.int .i64 p, .int .i64 a, .int .i64 b]] w fun e w' => e = .returned (.tuple #[.int .i64 n, .int .i64 0]) ∧ Below w.heap.size w w') (HT : ∀ w, Calls Try.prog 11 #[.agg #[.int .i64 p, .int .i64 a, .int .i64 b], .int .i64 (n), .agg #[.int .i64 sx, .int .i64 sy, .bool sf]] w fun e w' => e = .returned (.tuple #[.agg #[.int .i64 0, .int .i64 0, .bool true], .int .i64 0]) ∧ Below w.heap.size w w') (HK : ∀ ap cp w, RowS w ap [⟨sx, sy, sf⟩] → Calls Try.prog 8 #[.agg #[.int .i64 p, .int .i64 a, .int .i64 b], .slice ap 1 cp] w fun e w' => e = .returned (.bool true) ∧ Below w.heap.size w w') (HX : ∀ w, Calls Try.prog 11 #[.agg #[.int .i64 p, .int .i64 a, .int .i64 b], .int .i64 (k), .agg #[.int .i64 sx, .int .i64 sy, .bool sf]] w fun e w' => e = .returned (.tuple #[.agg #[.int .i64 ux, .int .i64 uy, .bool uf], .int .i64 0]) ∧ Below w.heap.size w w') (HY : ∀ w, Calls Try.prog 11 #[.agg #[.int .i64 p, .int .i64 a, .int .i64 b], .int .i64 (k + n), .agg #[.int .i64 sx, .int .i64 sy, .bool sf]] w fun e w' => e = .returned (.tuple #[.agg #[.int .i64 ux, .int .i64 uy, .bool uf], .int .i64 0]) ∧ Below w.heap.size w w') :
    Calls Try.prog 6 #[.agg #[.int .i64 p, .int .i64 a, .int .i64 b], .agg #[.int .i64 sx, .int .i64 sy, .bool sf], .int .i64 k] w fun e w' => e = .returned (.bool true) ∧ Below w.heap.size w w' := by
  replace HC := Lib.hid HC
  replace HT := Lib.hid HT
  replace HK := Lib.hid HK
  replace HX := Lib.hid HX
  replace HY := Lib.hid HY
  go_enter Try.func6, Try.ntmps6
  go_wp2_with fail
  refine (HC.out _).mono ?_
  rintro e w1 ⟨rfl, hb1⟩
  have z1 := hb1.size
  try simp at z1
  have hz1 := below_two (((Below.refl _ _).alloc (Nat.le_refl _) _).alloc (by simp <;> omega) _) hb1
  have cc0 := kept hb1 (b := w.heap.size) (o := 0) (v := .int .i64 p) (by simp [go_sem]) (by simp [go_sem] <;> omega)
  have cc1 := kept hb1 (b := w.heap.size) (o := 1) (v := .int .i64 a) (by simp [go_sem]) (by simp [go_sem] <;> omega)
  have cc2 := kept hb1 (b := w.heap.size) (o := 2) (v := .int .i64 b) (by simp [go_sem]) (by simp [go_sem] <;> omega)
  have cs0 := kept hb1 (b := w.heap.size + 1) (o := 0) (v := .int .i64 sx) (by simp [go_sem]) (by simp [go_sem] <;> omega)
  have cs1 := kept hb1 (b := w.heap.size + 1) (o := 1) (v := .int .i64 sy) (by simp [go_sem]) (by simp [go_sem] <;> omega)
  have cs2 := kept hb1 (b := w.heap.size + 1) (o := 2) (v := .bool sf) (by simp [go_sem]) (by simp [go_sem] <;> omega)
  have nac : ¬ w.heap.size = w1.heap.size := by omega
  have nbc : ¬ w1.heap.size = w.heap.size := by omega
  have nas : ¬ w.heap.size + 1 = w1.heap.size := by omega
  have nbs : ¬ w1.heap.size = w.heap.size + 1 := by omega
  have hbw := hz1
  clear hz1 hb1
  go_wp2_with fail
  refine (HT.out _).mono ?_
  rintro e w2 ⟨rfl, hb2⟩
  have z2 := hb2.size
  try simp at z2
  have hz2 := below_two ((Below.refl _ _)) hb2
  try clear nac nbc
  try clear nas nbs
  replace cc0 := kept hz2 cc0 (by omega)
  replace cc1 := kept hz2 cc1 (by omega)
  replace cc2 := kept hz2 cc2 (by omega)
  replace cs0 := kept hz2 cs0 (by omega)
  replace cs1 := kept hz2 cs1 (by omega)
  replace cs2 := kept hz2 cs2 (by omega)
  have nac : ¬ w.heap.size = w2.heap.size := by omega
  have nbc : ¬ w2.heap.size = w.heap.size := by omega
  have nas : ¬ w.heap.size + 1 = w2.heap.size := by omega
  have nbs : ¬ w2.heap.size = w.heap.size + 1 := by omega
  have hbx := below_two hbw hz2
  clear hbw
  have hbw := hbx
  clear hbx
  clear hz2 hb2
  have hA2 : Below w2.heap.size w2 (w2.alloc (.cells #[.int .i64 0, .int .i64 0, .bool true] 30)) := (Below.refl _ _).alloc (Nat.le_refl _) _
  have xcc0 := kept hA2 cc0 (by omega)
  have xcc1 := kept hA2 cc1 (by omega)
  have xcc2 := kept hA2 cc2 (by omega)
  have xcs0 := kept hA2 cs0 (by omega)
  have xcs1 := kept hA2 cs1 (by omega)
  have xcs2 := kept hA2 cs2 (by omega)
  clear hA2
  go_wp2_with fail
  refine (HK.out _ 1 _ ?r1).mono ?_
  case r1 => exact RowS.one (by simp [go_sem]) (by simp [go_sem]) (by simp [go_sem]) (by simp [go_sem] <;> omega)
  rintro e w3 ⟨rfl, hb3⟩
  have z3 := hb3.size
  try simp at z3
  have hz3 := below_two (((Below.refl _ _).alloc (Nat.le_refl _) _).alloc (by simp <;> omega) _) hb3
  try clear nac nbc
  try clear nas nbs
  clear xcc0 xcc1 xcc2 xcs0 xcs1 xcs2
  replace cc0 := kept hz3 cc0 (by omega)
  replace cc1 := kept hz3 cc1 (by omega)
  replace cc2 := kept hz3 cc2 (by omega)
  replace cs0 := kept hz3 cs0 (by omega)
  replace cs1 := kept hz3 cs1 (by omega)
  replace cs2 := kept hz3 cs2 (by omega)
  have cm0 := kept hb3 (b := w2.heap.size) (o := 0) (v := .int .i64 0) (by simp [go_sem]) (by simp [go_sem] <;> omega)
  have cm1 := kept hb3 (b := w2.heap.size) (o := 1) (v := .int .i64 0) (by simp [go_sem]) (by simp [go_sem] <;> omega)
  have cm2 := kept hb3 (b := w2.heap.size) (o := 2) (v := .bool true) (by simp [go_sem]) (by simp [go_sem] <;> omega)
  have nac : ¬ w.heap.size = w3.heap.size := by omega
  have nbc : ¬ w3.heap.size = w.heap.size := by omega
  have nas : ¬ w.heap.size + 1 = w3.heap.size := by omega
  have nbs : ¬ w3.heap.size = w.heap.size + 1 := by omega
  have nam : ¬ w2.heap.size = w3.heap.size := by omega
  have nbm : ¬ w3.heap.size = w2.heap.size := by omega
  have hbx := below_two hbw hz3
  clear hbw
  have hbw := hbx
  clear hbx
  clear hz3 hb3
  go_wp2_with fail
  refine (HX.out _).mono ?_
  rintro e w4 ⟨rfl, hb4⟩
  have z4 := hb4.size
  try simp at z4
  have hz4 := below_two ((Below.refl _ _)) hb4
  try clear nac nbc
  try clear nas nbs
  try clear nam nbm
  replace cc0 := kept hz4 cc0 (by omega)
  replace cc1 := kept hz4 cc1 (by omega)
  replace cc2 := kept hz4 cc2 (by omega)
  replace cs0 := kept hz4 cs0 (by omega)
  replace cs1 := kept hz4 cs1 (by omega)
  replace cs2 := kept hz4 cs2 (by omega)
  replace cm0 := kept hz4 cm0 (by omega)
  replace cm1 := kept hz4 cm1 (by omega)
  replace cm2 := kept hz4 cm2 (by omega)
  have nac : ¬ w.heap.size = w4.heap.size := by omega
  have nbc : ¬ w4.heap.size = w.heap.size := by omega
  have nas : ¬ w.heap.size + 1 = w4.heap.size := by omega
  have nbs : ¬ w4.heap.size = w.heap.size + 1 := by omega
  have nam : ¬ w2.heap.size = w4.heap.size := by omega
  have nbm : ¬ w4.heap.size = w2.heap.size := by omega
  have hbx := below_two hbw hz4
  clear hbw
  have hbw := hbx
  clear hbx
  clear hz4 hb4
  have hA4 : Below w4.heap.size w4 (w4.alloc (.cells #[.int .i64 ux, .int .i64 uy, .bool uf] 30)) := (Below.refl _ _).alloc (Nat.le_refl _) _
  have xcc0 := kept hA4 cc0 (by omega)
  have xcc1 := kept hA4 cc1 (by omega)
  have xcc2 := kept hA4 cc2 (by omega)
  have xcs0 := kept hA4 cs0 (by omega)
  have xcs1 := kept hA4 cs1 (by omega)
  have xcs2 := kept hA4 cs2 (by omega)
  have xcm0 := kept hA4 cm0 (by omega)
  have xcm1 := kept hA4 cm1 (by omega)
  have xcm2 := kept hA4 cm2 (by omega)
  clear hA4
  go_wp2_with fail
  refine (HY.out _).mono ?_
  rintro e w5 ⟨rfl, hb5⟩
  have z5 := hb5.size
  try simp at z5
  have hz5 := below_two ((Below.refl _ _).alloc (Nat.le_refl _) _) hb5
  try clear nac nbc
  try clear nas nbs
  try clear nam nbm
  clear xcc0 xcc1 xcc2 xcs0 xcs1 xcs2 xcm0 xcm1 xcm2
  replace cc0 := kept hz5 cc0 (by omega)
  replace cc1 := kept hz5 cc1 (by omega)
  replace cc2 := kept hz5 cc2 (by omega)
  replace cs0 := kept hz5 cs0 (by omega)
  replace cs1 := kept hz5 cs1 (by omega)
  replace cs2 := kept hz5 cs2 (by omega)
  replace cm0 := kept hz5 cm0 (by omega)
  replace cm1 := kept hz5 cm1 (by omega)
  replace cm2 := kept hz5 cm2 (by omega)
  have cu0 := kept hb5 (b := w4.heap.size) (o := 0) (v := .int .i64 ux) (by simp [go_sem]) (by simp [go_sem] <;> omega)
  have cu1 := kept hb5 (b := w4.heap.size) (o := 1) (v := .int .i64 uy) (by simp [go_sem]) (by simp [go_sem] <;> omega)
  have cu2 := kept hb5 (b := w4.heap.size) (o := 2) (v := .bool uf) (by simp [go_sem]) (by simp [go_sem] <;> omega)
  have nac : ¬ w.heap.size = w5.heap.size := by omega
  have nbc : ¬ w5.heap.size = w.heap.size := by omega
  have nas : ¬ w.heap.size + 1 = w5.heap.size := by omega
  have nbs : ¬ w5.heap.size = w.heap.size + 1 := by omega
  have nam : ¬ w2.heap.size = w5.heap.size := by omega
  have nbm : ¬ w5.heap.size = w2.heap.size := by omega
  have nau : ¬ w4.heap.size = w5.heap.size := by omega
  have nbu : ¬ w5.heap.size = w4.heap.size := by omega
  have hbx := below_two hbw hz5
  clear hbw
  have hbw := hbx
  clear hbx
  clear hz5 hb5
  have hA5 : Below w5.heap.size w5 (w5.alloc (.cells #[.int .i64 ux, .int .i64 uy, .bool uf] 30)) := (Below.refl _ _).alloc (Nat.le_refl _) _
  have xcc0 := kept hA5 cc0 (by omega)
  have xcc1 := kept hA5 cc1 (by omega)
  have xcc2 := kept hA5 cc2 (by omega)
  have xcs0 := kept hA5 cs0 (by omega)
  have xcs1 := kept hA5 cs1 (by omega)
  have xcs2 := kept hA5 cs2 (by omega)
  have xcm0 := kept hA5 cm0 (by omega)
  have xcm1 := kept hA5 cm1 (by omega)
  have xcm2 := kept hA5 cm2 (by omega)
  have xcu0 := kept hA5 cu0 (by omega)
  have xcu1 := kept hA5 cu1 (by omega)
  have xcu2 := kept hA5 cu2 (by omega)
  clear hA5
  go_wp2
  go_ret
  exact ⟨rfl, below_two hbw ((Below.refl _ _).alloc (Nat.le_refl _) _)⟩
theorem WCurveLagrange (a0x : Int) (a0y : Int) (a0z : Int) (a1x : Int) (a1y : Int) (a1z : Bool) (a2 : Int) (w : World) (w0x : (Lit.int .i64 a0x).wf = true) (w0y : (Lit.int .i64 a0y).wf = true) (w0z : (Lit.int .i64 a0z).wf = true) (w1x : (Lit.int .i64 a1x).wf = true) (w1y : (Lit.int .i64 a1y).wf = true) (w2 : (Lit.int .i64 a2).wf = true) :
    Calls Try.prog 6 #[.agg #[.int .i64 a0x, .int .i64 a0y, .int .i64 a0z], .agg #[.int .i64 a1x, .int .i64 a1y, .bool a1z], .int .i64 a2] w fun e w' => e = .returned (.bool true) ∧ Below w.heap.size w w' := by
  have HK := fun ap cp w hr => keep_spots a0x a0y a0z ap cp [⟨a1x, a1y, a1z⟩] w hr (by simp)
  by_cases h : spE a0x a0y a0z [⟨a1x, a1y, a1z⟩] = 0
  · rw [h] at HK
    obtain ⟨hc, hm⟩ := spE_zero h
    have hs := hm _ (List.mem_cons_self ..)
    have c0 := spE_cv h
    have hp := hc.pr
    have h5 : 5 ≤ a0x.toNat := by have := hc.p5; omega
    have ho : a0x.toNat % 2 = 1 := by
      rcases Nat.mod_two_eq_zero_or_one a0x.toNat with e | e
      · rcases hp.2 2 (Nat.dvd_of_mod_eq_zero e) with h | h <;> omega
      · exact e
    have HC := fun w => curve_Count a0x a0y a0z w c0
    rw [cntS_len hp ho] at HC
    have bd := cntS_bd a0x.toNat a0y a0z a0x.toNat
    rw [cntS_len hp ho] at bd
    have hL := lagrange hp h5 hc.disc (spotsL_nodup a0x.toNat a0y a0z) (fun s => spotsL_mem) hs
    obtain ⟨L, hLe⟩ : ∃ L, (spotsL a0x.toNat a0y a0z).length = L := ⟨_, rfl⟩
    rw [hLe] at HC bd hL
    have p1 := hc.p1
    have L1 : L ≤ 2147483648 := by omega
    have HT := fun w => curve_Times a0x a0y a0z L ⟨a1x, a1y, a1z⟩ w h L1
    rw [hL] at HT
    by_cases h1 : a2 < 0
    · exact cl_neg a0x a0y a0z a1x a1y a2 L a1z w (by omega) (by omega) h1 HC HT HK
    by_cases h2 : 2147483648 - (L : Int) < a2
    · exact cl_big a0x a0y a0z a1x a1y a2 L a1z w (by omega) (by omega) (by omega) h2 HC HT HK
    obtain ⟨k, rfl⟩ := Int.eq_ofNat_of_zero_le (show 0 ≤ a2 by omega)
    have HX := fun w => curve_Times a0x a0y a0z k ⟨a1x, a1y, a1z⟩ w h (by omega)
    have HY := fun w => curve_Times a0x a0y a0z (k + L) ⟨a1x, a1y, a1z⟩ w h (by omega)
    rw [mulS_add hp h5 hc.disc hs L k, hL, add_far (mulS_on hp h5 hs k), Int.natCast_add] at HY
    exact cl_go a0x a0y a0z a1x a1y k L _ _ a1z _ w (by omega) (by omega) (by omega) (by omega) HC HT HK HX HY
  · rw [beq_eq_false_iff_ne.2 h] at HK
    by_cases c0 : cvE a0x a0y a0z = 0
    · exact cl_no a0x a0y a0z a1x a1y a2 _ _ _ a1z w h (fun w => curve_Count a0x a0y a0z w c0) (fun w => curve_Times_bad a0x a0y a0z _ ⟨a1x, a1y, a1z⟩ w h) HK
    · exact cl_no a0x a0y a0z a1x a1y a2 _ _ _ a1z w h (fun w => curve_Count_bad a0x a0y a0z w c0) (fun w => curve_Times_bad a0x a0y a0z _ ⟨a1x, a1y, a1z⟩ w h) HK
end Go.Proofs.Ytnheboamjfahaaa

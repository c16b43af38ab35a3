/- The contract of hash.Clash. -/
import Derived.Test.YtpikjahgnnejmaaMix
import Derived.Test.YtpikjahgnnejmaaCell
import Derived.Laws.StructEq
import Derived.RegionTactic
import Derived.Outline
namespace Go.Proofs.Ytpikjahgnnejmaa
open Go.RowKit
set_option linter.unusedVariables false
set_option linter.unusedSimpArgs false
set_option maxRecDepth 100000 in
set_option maxHeartbeats 3200000 in
theorem hash_Clash_long (a b : Option Addr) (c d L M : Nat) (w : World) (hl : L ≤ maxLen) (hm : M ≤ maxLen) (h : 4096 < L ∨ 4096 < M) :
    Calls Try.prog 16 #[.slice a L c, .slice b M d] w fun e w' => (∃ t : Int, ¬ t = 0 ∧ e = .returned (.tuple #[.agg #[.int .u32 0, .int .u8 0], .agg #[.int .u32 0, .int .u8 0], .int .i64 t])) ∧ Below w.heap.size w w' := by
  unfold maxLen at hl hm
  have d2 : (4096 : Int) < (if L < M then (M : Int) else (L : Int)) := by split <;> omega
  clear h
  go_enter Try.func16, Try.ntmps16
  go_wp2
  all_goals
    refine bodyPost_ret (v := .tuple #[.agg #[.int .u32 0, .int .u8 0], .agg #[.int .u32 0, .int .u8 0], .int .i64 1]) ?_ rfl ?_
    · simp [results, Try.f16, go_sem]
    · exact ⟨⟨1, by omega, rfl⟩, ((Below.refl _ _).alloc (Nat.le_refl _) _).alloc (by simp) _⟩
set_option maxRecDepth 100000 in
set_option maxHeartbeats 3200000 in
theorem hash_Clash_same (a b : Option Addr) (c d : Nat) (xs : List Nat) (w : World) (h1 : RowB w a c xs) (h2 : RowB w b d xs) (hl : xs.length ≤ 4096) (hx : ∀ x ∈ xs, x < 256) :
    Calls Try.prog 16 #[.slice a xs.length c, .slice b xs.length d] w fun e w' => e = .returned (.tuple #[.agg #[.int .u32 0, .int .u8 0], .agg #[.int .u32 0, .int .u8 0], .int .i64 3]) ∧ Below w.heap.size w w' := by
  have HE := Lib.hid fun w' (hb : Below w.heap.size w w') => bytes_Equal a b c d xs xs w' (h1.below hb (Nat.le_refl _)) (h2.below hb (Nat.le_refl _)) hx hx
  rw [show (xs == xs) = true by simp] at HE
  obtain ⟨L, hL⟩ : ∃ L, L = xs.length := ⟨_, rfl⟩
  rw [← hL] at HE hl ⊢
  clear hL h1 h2 hx
  have d2 : ¬ (4096 : Int) < (if L < L then (L : Int) else (L : Int)) := by split <;> omega
  go_enter Try.func16, Try.ntmps16
  go_wp2_with fail
  refine (HE.out _ (((Below.refl _ _).alloc (Nat.le_refl _) _).alloc (by simp) _)).mono ?_
  rintro e w1 ⟨rfl, rfl⟩
  go_wp2
  refine bodyPost_ret (v := .tuple #[.agg #[.int .u32 0, .int .u8 0], .agg #[.int .u32 0, .int .u8 0], .int .i64 3]) ?_ rfl ?_
  · simp [results, Try.f16, go_sem]
  · exact ⟨rfl, ((Below.refl _ _).alloc (Nat.le_refl _) _).alloc (by simp) _⟩
set_option maxRecDepth 100000 in
set_option maxHeartbeats 3200000 in
theorem hash_Clash_none (a b : Option Addr) (c d : Nat) (xs ys : List Nat) (w : World) (h1 : RowB w a c xs) (h2 : RowB w b d ys) (hl : xs.length ≤ 4096) (hm : ys.length ≤ 4096) (hx : ∀ x ∈ xs, x < 256) (hy : ∀ x ∈ ys, x < 256) (hne : xs ≠ ys) (hs : sumN xs ≠ sumN ys) :
    Calls Try.prog 16 #[.slice a xs.length c, .slice b ys.length d] w fun e w' => e = .returned (.tuple #[.agg #[.int .u32 0, .int .u8 0], .agg #[.int .u32 0, .int .u8 0], .int .i64 5]) ∧ Below w.heap.size w w' := by
  have HE := Lib.hid fun w' (hb : Below w.heap.size w w') => bytes_Equal a b c d xs ys w' (h1.below hb (Nat.le_refl _)) (h2.below hb (Nat.le_refl _)) hx hy
  rw [show (xs == ys) = false by rw [beq_eq_false_iff_ne]; exact hne] at HE
  have HO1 := Lib.hid fun w' (hb : Below w.heap.size w w') => hash_Of a c xs w' (h1.below hb (Nat.le_refl _)) (by omega) hx
  have HO2 := Lib.hid fun w' (hb : Below w.heap.size w w') => hash_Of b d ys w' (h2.below hb (Nat.le_refl _)) (by omega) hy
  obtain ⟨S, hS⟩ : ∃ S, sumN xs = S := ⟨_, rfl⟩
  obtain ⟨T, hT⟩ : ∃ S, sumN ys = S := ⟨_, rfl⟩
  rw [hS] at HO1 hs
  rw [hT] at HO2 hs
  obtain ⟨L, hL⟩ : ∃ L, L = xs.length := ⟨_, rfl⟩
  obtain ⟨M, hM⟩ : ∃ L, L = ys.length := ⟨_, rfl⟩
  rw [← hL] at HE HO1 hl ⊢
  rw [← hM] at HE HO2 hm ⊢
  clear hL hM h1 h2 hx hy hne hS hT
  have d2 : ¬ (4096 : Int) < (if L < M then (M : Int) else (L : Int)) := by split <;> omega
  have e1 : ((S : Int) != (T : Int)) = true := by simp; omega
  have e2 : ((S : Int) == (T : Int)) = false := by simp; omega
  rcases Nat.lt_or_ge L M with hLM | hLM
  all_goals
    go_enter Try.func16, Try.ntmps16
    go_wp2_with fail
    have hB0 : Below w.heap.size w ((w.alloc (.cells #[.int .u32 0, .int .u8 0] 33)).alloc (.cells #[.int .u32 0, .int .u8 0] 33)) := ((Below.refl _ _).alloc (Nat.le_refl _) _).alloc (by simp) _
    refine (HE.out _ hB0).mono ?_
    rintro e w1 ⟨rfl, rfl⟩
    go_wp2_with fail
    refine (HO1.out _ hB0).mono ?_
    rintro e w1 ⟨rfl, hb1⟩
    have z1 := hb1.size
    simp at z1
    have r0 := kept hb1 (b := w.heap.size) (o := 0) (v := .int .u32 0) (by simp [go_sem]) (by simp [go_sem] <;> omega)
    have r1 := kept hb1 (b := w.heap.size) (o := 1) (v := .int .u8 0) (by simp [go_sem]) (by simp [go_sem] <;> omega)
    have r2 := kept hb1 (b := w.heap.size + 1) (o := 0) (v := .int .u32 0) (by simp [go_sem]) (by simp [go_sem] <;> omega)
    have r3 := kept hb1 (b := w.heap.size + 1) (o := 1) (v := .int .u8 0) (by simp [go_sem]) (by simp [go_sem] <;> omega)
    have s0 := (hb1.frozen (p := ⟨w.heap.size, 0, none⟩) (by simp [go_sem] <;> omega)).trans (show _ = false by simp [go_sem])
    have s1 := (hb1.frozen (p := ⟨w.heap.size, 1, none⟩) (by simp [go_sem] <;> omega)).trans (show _ = false by simp [go_sem])
    have s2 := (hb1.frozen (p := ⟨w.heap.size + 1, 0, none⟩) (by simp [go_sem] <;> omega)).trans (show _ = false by simp [go_sem])
    have s3 := (hb1.frozen (p := ⟨w.heap.size + 1, 1, none⟩) (by simp [go_sem] <;> omega)).trans (show _ = false by simp [go_sem])
    have hB1 := below_two hB0 hb1
    clear hB0
    go_wp2_with fail
    refine (HO2.out _ hB1).mono ?_
    rintro e w2 ⟨rfl, hb2⟩
    have z2 := hb2.size
    replace r0 := kept hb2 r0 (by omega)
    replace r1 := kept hb2 r1 (by omega)
    replace r2 := kept hb2 r2 (by omega)
    replace r3 := kept hb2 r3 (by omega)
    replace s0 := (hb2.frozen (p := ⟨w.heap.size, 0, none⟩) (by simp; omega)).trans s0
    replace s1 := (hb2.frozen (p := ⟨w.heap.size, 1, none⟩) (by simp; omega)).trans s1
    replace s2 := (hb2.frozen (p := ⟨w.heap.size + 1, 0, none⟩) (by simp; omega)).trans s2
    replace s3 := (hb2.frozen (p := ⟨w.heap.size + 1, 1, none⟩) (by simp; omega)).trans s3
    have hB2 := below_two hB1 hb2
    clear hB1 hb1
    go_wp2
    refine bodyPost_ret (v := .tuple #[.agg #[.int .u32 0, .int .u8 0], .agg #[.int .u32 0, .int .u8 0], .int .i64 5]) ?_ rfl ?_
    · simp [results, Try.f16, go_sem, r0, r1, r2, r3]
    · exact ⟨rfl, (((hB2.setCell (by simp) _).setCell (by simp) _).setCell (by simp) _).setCell (by simp) _⟩
theorem own_pairs {W : World} {base k : Nat} {v : Value} {e : TypeId} {xs : List Value} (h : W.ownsRow base e 2 v k xs) (hk : 0 < k) :
    ∃ g cap, v = .slice (some ⟨g, 0, none⟩) k cap ∧ base ≤ g ∧ ∀ j u, xs[j]? = some u → W.cell? ⟨g, j, none⟩ = some u := by
  rcases h.2 with ⟨_, h0⟩ | ⟨g, cap, cur, rfl, hbg, _⟩
  · omega
  · exact ⟨g, cap, rfl, hbg, fun j u hu => by have := h.cells (g := g) rfl j u hu; rwa [add_at] at this⟩
/-- where two texts clash -/
def ClashAt (w : World) (e : Ending) (w' : World) : Prop :=
  ∃ g x h y : Nat, e = .returned (.tuple #[.agg #[.int .u32 g, .int .u8 x], .agg #[.int .u32 h, .int .u8 y], .int .i64 0]) ∧ g < 65536 ∧ h < 65536 ∧ x < 256 ∧ y < 256 ∧ ¬ (g = h ∧ x = y) ∧ M.stepN g x = M.stepN h y ∧ Below w.heap.size w w'
set_option maxRecDepth 100000 in
set_option maxHeartbeats 6400000 in
theorem hash_Clash_yes (a b : Option Addr) (c d : Nat) (xs ys : List Nat) (w : World) (h1 : RowB w a c xs) (h2 : RowB w b d ys) (hl : xs.length ≤ 4096) (hm : ys.length ≤ 4096) (hx : ∀ x ∈ xs, x < 256) (hy : ∀ x ∈ ys, x < 256) (hne : xs ≠ ys) (hs : sumN xs = sumN ys) :
    Calls Try.prog 16 #[.slice a xs.length c, .slice b ys.length d] w (ClashAt w) := by
  have HE := Lib.hid fun w' (hb : Below w.heap.size w w') => bytes_Equal a b c d xs ys w' (h1.below hb (Nat.le_refl _)) (h2.below hb (Nat.le_refl _)) hx hy
  rw [show (xs == ys) = false by rw [beq_eq_false_iff_ne]; exact hne] at HE
  have HO1 := Lib.hid fun w' (hb : Below w.heap.size w w') => hash_Of a c xs w' (h1.below hb (Nat.le_refl _)) (by omega) hx
  have HO2 := Lib.hid fun w' (hb : Below w.heap.size w w') => hash_Of b d ys w' (h2.below hb (Nat.le_refl _)) (by omega) hy
  have HM1 := Lib.hid fun w' (hb : Below w.heap.size w w') => hash_mixes a c xs w' (h1.below hb (Nat.le_refl _)) hl hx
  have HM2 := Lib.hid fun w' (hb : Below w.heap.size w w') => hash_mixes b d ys w' (h2.below hb (Nat.le_refl _)) hm hy
  have HA := Lib.hid (Agree.init hs)
  have HMo := Lib.hid fun t (h : Agree xs ys t) => h.more hne hl hm
  have px : ∀ x ∈ padN xs, x < 256 := fun x hm => by
    rcases List.mem_append.1 hm with h | h
    · exact hx x h
    · exact litN_lt _ _ x h
  have py : ∀ x ∈ padN ys, x < 256 := fun x hm => by
    rcases List.mem_append.1 hm with h | h
    · exact hy x h
    · exact litN_lt _ _ x h
  have HPX := Lib.hid px
  have HPY := Lib.hid py
  obtain ⟨S, hS⟩ : ∃ S, sumN xs = S := ⟨_, rfl⟩
  rw [← hs, hS] at HO2
  rw [hS] at HO1
  have HLx := Lib.hid (rfl : xs.length = xs.length)
  obtain ⟨L, hL⟩ : ∃ L, L = xs.length := ⟨_, rfl⟩
  obtain ⟨M, hM⟩ : ∃ L, L = ys.length := ⟨_, rfl⟩
  have HL := Lib.hid hL
  have HM := Lib.hid hM
  rw [← hL] at HE HO1 HM1 hl ⊢
  rw [← hM] at HE HO2 HM2 hm ⊢
  clear hL hM h1 h2 hx hy hne hS hs px py HLx
  have d2 : ¬ (4096 : Int) < (if L < M then (M : Int) else (L : Int)) := by split <;> omega
  have e1 : ((S : Int) != (S : Int)) = false := by simp
  rcases Nat.lt_or_ge L M with hLM | hLM
  all_goals
    go_enter Try.func16, Try.ntmps16
    go_wp2_with fail
    have hB0 : Below w.heap.size w ((w.alloc (.cells #[.int .u32 0, .int .u8 0] 33)).alloc (.cells #[.int .u32 0, .int .u8 0] 33)) := ((Below.refl _ _).alloc (Nat.le_refl _) _).alloc (by simp) _
    refine (HE.out _ hB0).mono ?_
    rintro e w1 ⟨rfl, rfl⟩
    go_wp2_with fail
    refine (HO1.out _ hB0).mono ?_
    rintro e w1 ⟨rfl, hb1⟩
    have z1 := hb1.size
    simp at z1
    have r0 := kept hb1 (b := w.heap.size) (o := 0) (v := .int .u32 0) (by simp [go_sem]) (by simp [go_sem] <;> omega)
    have r1 := kept hb1 (b := w.heap.size) (o := 1) (v := .int .u8 0) (by simp [go_sem]) (by simp [go_sem] <;> omega)
    have r2 := kept hb1 (b := w.heap.size + 1) (o := 0) (v := .int .u32 0) (by simp [go_sem]) (by simp [go_sem] <;> omega)
    have r3 := kept hb1 (b := w.heap.size + 1) (o := 1) (v := .int .u8 0) (by simp [go_sem]) (by simp [go_sem] <;> omega)
    have s0 := (hb1.frozen (p := ⟨w.heap.size, 0, none⟩) (by simp [go_sem] <;> omega)).trans (show _ = false by simp [go_sem])
    have s1 := (hb1.frozen (p := ⟨w.heap.size, 1, none⟩) (by simp [go_sem] <;> omega)).trans (show _ = false by simp [go_sem])
    have s2 := (hb1.frozen (p := ⟨w.heap.size + 1, 0, none⟩) (by simp [go_sem] <;> omega)).trans (show _ = false by simp [go_sem])
    have s3 := (hb1.frozen (p := ⟨w.heap.size + 1, 1, none⟩) (by simp [go_sem] <;> omega)).trans (show _ = false by simp [go_sem])
    have hB1 := below_two hB0 hb1
    clear hB0
    go_wp2_with fail
    refine (HO2.out _ hB1).mono ?_
    rintro e w2 ⟨rfl, hb2⟩
    have hB2 := below_two hB1 hb2
    go_wp2_with fail
    refine (HM1.out _ hB2).mono ?_
    rintro e w3 ⟨v3, rfl, hb3, hr3⟩
    have hB3 := below_two hB2 hb3
    go_wp2_with fail
    refine (HM2.out _ hB3).mono ?_
    rintro e w4 ⟨v4, rfl, hb4, hr4⟩
    have hb := below_two (below_two (hb2) hb3) hb4
    have hB4 := below_two hB3 hb4
    have z4 := hb.size
    replace r0 := kept hb r0 (by omega)
    replace r1 := kept hb r1 (by omega)
    replace r2 := kept hb r2 (by omega)
    replace r3 := kept hb r3 (by omega)
    replace s0 := (hb.frozen (p := ⟨w.heap.size, 0, none⟩) (by simp; omega)).trans s0
    replace s1 := (hb.frozen (p := ⟨w.heap.size, 1, none⟩) (by simp; omega)).trans s1
    replace s2 := (hb.frozen (p := ⟨w.heap.size + 1, 0, none⟩) (by simp; omega)).trans s2
    replace s3 := (hb.frozen (p := ⟨w.heap.size + 1, 1, none⟩) (by simp; omega)).trans s3
    have hr3' := own_keep hr3 hb4
    obtain ⟨g, capg, rfl, bg, cg⟩ := own_pairs hr3' (by omega)
    obtain ⟨h, caph, rfl, bh, ch⟩ := own_pairs hr4 (by omega)
    have q1 : ¬ w.heap.size = g := by have := hb2.size; omega
    have q2 : ¬ w.heap.size + 1 = g := by have := hb2.size; omega
    have q3 : ¬ w.heap.size = h := by have := hb2.size; have := hb3.size; omega
    have q4 : ¬ w.heap.size + 1 = h := by have := hb2.size; have := hb3.size; omega
    have q5 : ¬ g = w.heap.size := fun e => q1 e.symm
    have q6 : ¬ g = w.heap.size + 1 := fun e => q2 e.symm
    have q7 : ¬ h = w.heap.size := fun e => q3 e.symm
    have q8 : ¬ h = w.heap.size + 1 := fun e => q4 e.symm
    have CG := Lib.hid cg
    have CH := Lib.hid ch
    clear hB1 hB2 hB3 hb1 hb2 hb3 hb4 hb hr3 hr3' hr4 cg ch HE HO1 HO2 HM1 HM2
    go_wp2
    go_loopw [9, 10] (fun i j wr => ∃ t I J : Nat, i = .int .i64 I ∧ j = .int .i64 J ∧ Hid (I + t = L + 3 ∧ J + t = M + 3) ∧ Agree xs ys t ∧ ∃ nq, wr = w4.drewN nq) (fun i _ _ => (intOf i + 1).toNat)
    case atStart => exact ⟨0, L + 3, M + 3, by go_num, by go_num, Lib.hid ⟨rfl, rfl⟩, HA.out, 0, rfl⟩
    case round =>
      obtain ⟨t, I, J, rfl, rfl, HIJ, hag, nq, rfl⟩ := hrel
      have h12 := HMo.out t hag
      rw [← HL.out, ← HM.out] at h12
      obtain ⟨x, hx⟩ := pad_some xs I (by rw [← HL.out]; have := HIJ.out; omega)
      obtain ⟨y, hy⟩ := pad_some ys J (by rw [← HM.out]; have := HIJ.out; omega)
      have x8 := HPX.out x (List.mem_of_getElem? hx)
      have y8 := HPY.out y (List.mem_of_getElem? hy)
      have g1 := stateN_lt (padN xs) I
      have g2 := stateN_lt (padN ys) J
      have c1 := CG.out _ _ (mixV_get (padN xs) (L + 4) I (by have := HIJ.out; omega)).1
      have c2 := CG.out _ _ (mixV_get (padN xs) (L + 4) I (by have := HIJ.out; omega)).2
      have c3 := CH.out _ _ (mixV_get (padN ys) (M + 4) J (by have := HIJ.out; omega)).1
      have c4 := CH.out _ _ (mixV_get (padN ys) (M + 4) J (by have := HIJ.out; omega)).2
      rw [List.getD_eq_getElem?_getD, hx, Option.getD_some] at c2
      rw [List.getD_eq_getElem?_getD, hy, Option.getD_some] at c4
      have i1 : I < L + 4 := by have := HIJ.out; omega
      have i2 : J < M + 4 := by have := HIJ.out; omega
      have hIx : I = xs.length + 3 - t := by have := HIJ.out; have := HL.out; omega
      have hJy : J = ys.length + 3 - t := by have := HIJ.out; have := HM.out; omega
      have hst := hag.step (x := x) (y := y) (by rw [← HL.out]; omega) (by rw [← HM.out]; omega) (by rw [← hIx]; exact hx) (by rw [← hJy]; exact hy)
      rw [← hIx, ← hJy] at hst
      have hnx : stateN (padN xs) I = stateN (padN ys) J → x = y → Agree xs ys (t + 1) := fun hs hb => hag.next (by rw [← HL.out]; omega) (by rw [← HM.out]; omega) (by rw [← hIx]; exact hx) (by rw [← hJy]; exact hy) (by rw [← hIx, ← hJy]; exact hs) hb
      obtain ⟨G, hG⟩ : ∃ G, stateN (padN xs) I = G := ⟨_, rfl⟩
      obtain ⟨H, hH⟩ : ∃ G, stateN (padN ys) J = G := ⟨_, rfl⟩
      rw [hG] at g1 c1 hst hnx
      rw [hH] at g2 c3 hst hnx
      have HST := Lib.hid hst
      have HNX := Lib.hid hnx
      clear hG hH hst hnx hIx hJy hx hy h12 hag
      by_cases heq : G = H ∧ x = y
      · obtain ⟨rfl, rfl⟩ := heq
        have hag2 := HNX.out rfl rfl
        have h13 := HMo.out _ hag2
        rw [← HL.out, ← HM.out] at h13
        obtain ⟨I', rfl⟩ : ∃ I', I = I' + 1 := ⟨I - 1, by have := HIJ.out; omega⟩
        obtain ⟨J', rfl⟩ : ∃ I', J = I' + 1 := ⟨J - 1, by have := HIJ.out; omega⟩
        have HAG := Lib.hid hag2
        clear h13 hag2 HNX HST
        go_wp2_with fail
        go_quiet (fail)
        go_wp2
        go_round
        case rel => exact ⟨t + 1, I', J', by go_num, by go_num, Lib.hid (by have := HIJ.out; omega), HAG.out, _, rfl⟩
        case measure => simp [intOf]; omega
      · have HEQ := Lib.hid heq
        clear HNX
        have HQ := Lib.hid heq
        by_cases e : G = H
        · subst e
          have e1 : ((x : Int) == (y : Int)) = false := by rw [beq_eq_false_iff_ne]; intro e2; exact heq ⟨rfl, by omega⟩
          have e2 : ¬ (x : Int) = (y : Int) := fun e2 => heq ⟨rfl, by omega⟩
          clear heq
          go_wp2_with fail
          go_quiet (fail)
          go_wp2
          go_region
          all_goals
            go_wp2
            refine bodyPost_ret (v := .tuple #[.agg #[.int .u32 G, .int .u8 x], .agg #[.int .u32 G, .int .u8 y], .int .i64 0]) ?_ rfl ?_
            · simp [results, Try.f16, go_sem, r0, r1, r2, r3]
            · exact ⟨G, x, G, y, rfl, g1, g1, x8, y8, (by have := HQ.out; simpa using this), HST.out, ((((((below_drewN hB4 _).drew).setCell (by simp) _).setCell (by simp) _).setCell (by simp) _).setCell (by simp) _)⟩
        · have e1 : ((G : Int) == (H : Int)) = false := by rw [beq_eq_false_iff_ne]; omega
          have e2 : ¬ (G : Int) = (H : Int) := by omega
          clear heq
          go_wp2_with fail
          go_quiet (fail)
          go_wp2
          go_region
          all_goals
            go_wp2
            refine bodyPost_ret (v := .tuple #[.agg #[.int .u32 G, .int .u8 x], .agg #[.int .u32 H, .int .u8 y], .int .i64 0]) ?_ rfl ?_
            · simp [results, Try.f16, go_sem, r0, r1, r2, r3]
            · exact ⟨G, x, H, y, rfl, g1, g2, x8, y8, (by have := HQ.out; simpa using this), HST.out, ((((((below_drewN hB4 _).drew).setCell (by simp) _).setCell (by simp) _).setCell (by simp) _).setCell (by simp) _)⟩
end Go.Proofs.Ytpikjahgnnejmaa

/- The walk of shift.least. -/
import Derived.Test.YteggmpogcpceeaaShi5
namespace Go.Proofs.Yteggmpogcpceeaa
open Go.RowKit Go.Maps Go.WideMaps
set_option linter.unusedVariables false
set_option linter.unusedSimpArgs false
theorem ownsMap_drewN {R : Value → Option (DataW Unit × List MemPlace)} {W : World} {b n : Nat} {D : DataW Unit} {k : TypeId} (h : W.ownsMap Try.prog k R b n D) : ∀ q, (W.drewN q).ownsMap Try.prog k R b n D := fun q => by
  obtain ⟨es, clock, hb, r⟩ := h
  exact ⟨es, clock, by simpa using hb, r⟩
set_option maxRecDepth 100000 in
set_option maxHeartbeats 6400000 in
theorem shift_least (a : Option Addr) (c L : Nat) (xs : List Bool) (w : World) (h : RowT w a c xs) (hl : xs.length ≤ 64) (hL : L ≤ xs.length) (hex : ∃ t, Sh.Mk t L (fun i => xs.getD i false) xs.length) :
    Calls Try.prog 11 #[.slice a xs.length c, .int .i64 L] w fun e w' => (∃ a' c' T, e = .returned (.slice a' L c') ∧ RowT w' a' c' ((List.range L).map fun i => Nat.testBit T i) ∧ Sh.Mk (fun i => Nat.testBit T i) L (fun i => xs.getD i false) xs.length) ∧ Below w.heap.size w w' := by
  have HR := Lib.hid h
  obtain ⟨N, hN⟩ : ∃ N, N = xs.length := ⟨_, rfl⟩
  have HN := Lib.hid hN
  rw [← hN] at hl hL hex ⊢
  obtain ⟨s, hs⟩ : ∃ s : Nat → Bool, (fun i => xs.getD i false) = s := ⟨_, rfl⟩
  have HS := Lib.hid hs
  rw [hs] at hex ⊢
  obtain ⟨ts, hts⟩ := hex
  have HTS := Lib.hid hts
  clear h hN hs hts
  have hmm := @run_makeMap Try.prog
  go_enter Try.func11, Try.ntmps11
  go_wp2
  go_loopw [7] (fun nv wr => ∃ (n m : Nat) (Dr Dw : DataW Unit) (R : Sh.Tab), nv = .int .i64 n ∧ L ≤ n ∧ n ≤ N ∧ m ≤ n ∧ Below w.heap.size w wr ∧ w.heap.size + 1 < wr.heap.size ∧ OwnR wr w.heap.size m Dr ∧ OwnW wr (w.heap.size + 1) m Dw ∧ TabD Dr Dw R ∧ R.Ok L ∧ Hid (∀ t, R.Sat L t ↔ Sh.Mk t L s n)) (fun nv _ => (N - (intOf nv).toNat))
  case atStart => exact ⟨L, 0, .map [], .map [], fun _ => none, rfl, Nat.le_refl _, hL, Nat.zero_le _, ((Below.refl _ _).alloc (Nat.le_refl _) _).alloc (by simp) _, by simp, (World.ownsMap_made _ _ _ _).alloc _, by
    have := World.ownsMap_made (H := Unit) (w.alloc (.map #[] 0)) Try.prog 3 (plainElem Try.prog 4)
    simpa using this, TabD.nil, (fun k r b e => by cases e), Lib.hid fun t => ⟨fun _ => Sh.Mk.first t s L, fun _ k r b e => by cases e⟩⟩
  case round =>
    obtain ⟨n, m, Dr, Dw, R, rfl, hLn, hnN, hmn, hb, hz, hr, hw, HT, HO, HSat⟩ := hrel
    have HT := Lib.hid HT
    have HO := Lib.hid HO
    have HOr := Lib.hid hr
    have HOw := Lib.hid hw
    clear hr hw
    by_cases hlt : n < N
    · obtain ⟨x, hx⟩ : ∃ x, xs[n]? = some x := ⟨_, List.getElem?_eq_getElem (by rw [← HN.out]; exact hlt)⟩
      have HSN : Hid (s n = x) := Lib.hid (by rw [← HS.out]; simp [List.getD_eq_getElem?_getD, hx])
      obtain ⟨ab, o, rfl, hcell⟩ := HR.out.shape (by rw [← HN.out]; omega)
      have HCL := Lib.hid hcell
      have hal : ab < w.heap.size := World.block_lt_of_cell? w _ (hcell n x hx)
      have kx := (hb.cell (p := ⟨ab, o + n, none⟩) hal).trans (hcell n x hx)
      clear hcell hx
      go_wp2
      go_loop [8, 9] (fun pv iv => ∃ K : Nat, iv = .int .i64 ((K : Int) + 1) ∧ K ≤ L ∧ pv = .int .u64 (Sh.wordOf (Sh.backF s n) K : Nat)) (fun _ iv => (L + 1 - (intOf iv).toNat))
      case atStart => exact ⟨0, rfl, Nat.zero_le _, rfl⟩
      case round =>
        obtain ⟨K, rfl, hK, rfl⟩ := hrel
        by_cases hkl : K < L
        · obtain ⟨y, hy⟩ : ∃ x, xs[n - 1 - K]? = some x := ⟨_, List.getElem?_eq_getElem (by rw [← HN.out]; omega)⟩
          have HSK : Hid (Sh.backF s n K = y) := Lib.hid (by unfold Sh.backF; rw [← HS.out]; simp [List.getD_eq_getElem?_getD, hy])
          have ky := (hb.cell (p := ⟨ab, o + (n - 1 - K), none⟩) hal).trans (HCL.out _ y hy)
          have m1 : IntKind.i64.wrap ((K : Int) + 1) = (K : Int) + 1 := IntWalk.i64_in _ (by omega)
          have m2 : IntKind.i64.wrap ((n : Int) - ((K : Int) + 1)) = ((n - 1 - K : Nat) : Int) := by rw [IntWalk.i64_in _ (by omega)]; omega
          have m3 : ((n - 1 - K : Nat) : Int) < N := by omega
          have m4 : n - 1 - K < N := by omega
          obtain ⟨J, hJ⟩ : ∃ J, n - 1 - K = J := ⟨_, rfl⟩
          rw [hJ] at m2 m3 m4 ky
          clear hy hJ
          cases y
          · go_wp2
            go_round
            case rel => exact ⟨K + 1, by go_num, by omega, by rw [word_skip HSK.out]⟩
            case measure => simp [intOf]; omega
          · go_wp2
            go_round
            case rel => exact ⟨K + 1, by go_num, by omega, by rw [word_step (by omega) HSK.out]⟩
            case measure => simp [intOf]; omega
        · obtain rfl : K = L := by omega
          have HP0 : Hid (∀ t, R.Sat K t → (Sh.dot (fun i => (Sh.wordOf (Sh.backF s n) K).testBit i) t K = x ↔ Sh.nxt t K s n = s n)) := Lib.hid fun t _ => by rw [Sh.dot_back, HSN.out]
          have hP0l := Sh.wordOf_lt (Sh.backF s n) K
          obtain ⟨P0, hP0⟩ : ∃ P, Sh.wordOf (Sh.backF s n) K = P := ⟨_, rfl⟩
          rw [hP0] at HP0 hP0l
          rw [hP0]
          clear hP0
          have HP0l := Lib.hid hP0l
          clear hP0l
          go_wp2
          clear kx
          go_loop [8, 10] (fun pv bv => ∃ (P : Nat) (b : Bool), pv = .int .u64 P ∧ bv = .bool b ∧ Hid (P < 2 ^ K) ∧ Hid (∀ t, R.Sat K t → (Sh.dot (fun i => P.testBit i) t K = b ↔ Sh.nxt t K s n = s n))) (fun pv _ => (intOf pv).toNat)
          case atStart => exact ⟨P0, x, rfl, rfl, HP0l, HP0⟩
          case round =>
            obtain ⟨P, b, rfl, rfl, HPl, HPe⟩ := hrel
            by_cases hp0 : P = 0
            · subst hp0
              have hbf : b = false := by
                have h1 := (HPe.out ts ((HSat.out ts).2 (HTS.out.mono (by omega)))).2 (HTS.out n hLn hlt).symm
                rw [Sh.dot_false K (fun i _ => by show ((0 : Nat).testBit i && ts i) = false; rw [Nat.zero_testBit]; rfl)] at h1
                exact h1.symm
              subst hbf
              have HNX : Hid (∀ t, R.Sat K t ↔ Sh.Mk t K s (n + 1)) := Lib.hid fun t => by
                rw [Sh.Mk.step hLn, ← HSat.out t]
                constructor
                · intro h1
                  refine ⟨h1, (HPe.out t h1).1 (Sh.dot_false K fun i _ => by show ((0 : Nat).testBit i && t i) = false; rw [Nat.zero_testBit]; rfl)⟩
                · exact fun h1 => h1.1
              have e0 : (((0 : Nat) : Int) != 0) = false := by simp
              go_wp2
              go_roundw
              case rel => exact ⟨n + 1, m, Dr, Dw, R, by go_num, by omega, by omega, by omega, hb, hz, HOr.out, HOw.out, HT.out, HO.out, HNX⟩
              case measure => simp [intOf]; omega
            · have hPl64 : P < 18446744073709551616 := lt64 HPl.out (by omega)
              obtain ⟨k1, k2, k3⟩ := len_bounds hPl64 hp0
              have HC := Lib.hid (bits_Len64 P wr hPl64)
              have hkL : Lib.bitLen P ≤ K := by
                refine Decidable.byContradiction fun hc => ?_
                have h1 : 2 ^ K ≤ 2 ^ (Lib.bitLen P - 1) := Nat.pow_le_pow_right (by omega) (by omega)
                have := HPl.out
                omega
              obtain ⟨k, hk⟩ : ∃ k, Lib.bitLen P = k := ⟨_, rfl⟩
              rw [hk] at k1 k2 k3 HC hkL
              have HTB := Lib.hid (top_bit k2 k3 k1)
              have HK2 := Lib.hid k2
              have HK3 := Lib.hid k3
              have e0 : ((P : Int) != 0) = true := by simp; omega
              clear hPl64 k2 k3 hk
              cases hRk : R k with
              | none =>
                have HRk := Lib.hid hRk
                obtain ⟨q, hq⟩ := look_no HOr.out HT.out (k := k) (by omega) hRk
                have hown1 := HOr.out
                have hown2 := HOw.out
                have hkey := key_int (k := k) (by omega)
                have hPw : (Lit.int .u64 (P : Int)).wf = true := by
                  have := lt64 HK3.out (by omega)
                  simp [Lit.wf, IntKind.min, IntKind.max, IntKind.signed, IntKind.bits]; omega
                clear hRk
                go_wp2_with fail
                refine HC.out.mono ?_
                rintro e w1 ⟨rfl, rfl⟩
                go_wp2_with (first
                  | (at_lookup; refine wpList_lookup_run _ rfl _ _ _ _ rfl rfl rfl hq ?_)
                  | (at_mapUpdate; refine wpList_mapUpdate_own _ rfl _ _ _ 38 rfl 3 29 law_int u_mapr _ w.heap.size m _ rfl hown1 (by unfold maxLen; omega) _ _ _ rfl rfl hkey _ [] (plainElem_int u_u64 hPw) ?_; intro w2 hown3 hgrow2; have hown4 := hown2.kept hgrow2 (by simp); have kb2 := hb.grown hgrow2 (by omega) (fun j hj => by cases hj; exact Nat.le_refl _); have kz2 := hgrow2.size)
                  | (at_mapUpdate; refine wpList_mapUpdate_own _ rfl _ _ _ 39 rfl 3 4 law_int u_mapw _ (w.heap.size + 1) m _ rfl hown4 (by unfold maxLen; omega) _ _ _ rfl rfl hkey _ [] (plainElem_bool u_bool _) ?_; intro w3 hown5 hgrow3; have hown6 := hown3.kept hgrow3 (by simp); have kb3 := kb2.grown hgrow3 (by omega) (fun j hj => by cases hj; omega); have kz3 := hgrow3.size))
                go_roundw
                case rel => exact ⟨n + 1, m + 1, _, _, R.put k (P, b), by go_num, by omega, by omega, by omega, kb3, by omega, hown6, hown5, HT.out.put hown1.isMap hown2.isMap k P b, HO.out.put (by omega) hkL HTB.out HK3.out, Lib.hid fun t => by
                  rw [Sh.Tab.sat_put HRk.out, Sh.Mk.step hLn, ← HSat.out t]
                  exact ⟨fun h1 => ⟨h1.1, (HPe.out t h1.1).1 h1.2⟩, fun h1 => ⟨h1.1, (HPe.out t h1.1).2 h1.2⟩⟩⟩
                case measure => simp [intOf]; omega
              | some v =>
                obtain ⟨r, y⟩ := v
                have HRk := Lib.hid hRk
                have hq := look_yes HOr.out HT.out (k := k) (by omega) hRk
                have hq2 := look_want HOw.out HT.out (k := k) (by omega) hRk
                obtain ⟨r1, r2, r3, r4⟩ := HO.out k r y hRk
                have hlow := Sh.row_less r1 HK3.out HTB.out r4 r3
                have hPL : P < 18446744073709551616 := lt64 HK3.out (by omega)
                have hrL : r < 18446744073709551616 := lt64 r4 (by omega)
                have ex := u64_xor_nat P r hPL hrL
                have HDR := Lib.hid fun t => Sh.dot_row (p := P) (r := r) (n := K) (t := t)
                obtain ⟨P2, hP2⟩ : ∃ P2, P ^^^ r = P2 := ⟨_, rfl⟩
                rw [hP2] at ex hlow HDR
                have hdec : P2 < P := Nat.lt_of_lt_of_le hlow HK2.out
                have HP2l : Hid (P2 < 2 ^ K) := Lib.hid (Nat.lt_of_lt_of_le hlow (Nat.pow_le_pow_right (by omega) (by omega)))
                clear hRk r2 r3 r4 hlow hPL hrL hP2
                go_wp2_with fail
                refine HC.out.mono ?_
                rintro e w1 ⟨rfl, rfl⟩
                go_wp2_with (first
                  | (at_lookup; refine wpList_lookup_run _ rfl _ _ _ _ rfl rfl rfl hq ?_)
                  | (at_lookup; refine wpList_lookup_run _ rfl _ _ _ _ rfl rfl rfl hq2 ?_))
                go_round
                case rel => exact ⟨P2, b != y, rfl, rfl, HP2l, Lib.hid fun t ht => by
                  rw [HDR.out t, HO.out |> fun _ => ht k r y HRk.out, ← HPe.out t ht]
                  generalize Sh.dot (fun i => P.testBit i) t K = q
                  cases q <;> cases b <;> cases y <;> simp⟩
                case measure => simp [intOf]; omega
    · obtain rfl : n = N := by omega
      have HW2 := Lib.hid hb
      clear hlt hmn hLn
      go_wp2
      go_loopw [14, 74] (fun tv iv wq => ∃ I : Nat, iv = .int .i64 I ∧ I ≤ L ∧ tv = .int .u64 (Sh.solve R I : Nat) ∧ ∃ q, wq = wr.drewN q) (fun _ iv _ => (L - (intOf iv).toNat))
      case atStart => exact ⟨0, rfl, Nat.zero_le _, rfl, 0, rfl⟩
      case round =>
        obtain ⟨I, rfl, hI, rfl, q0, rfl⟩ := hrel
        obtain ⟨W, hW⟩ : ∃ W, wr.drewN q0 = W := ⟨_, rfl⟩
        have HWE := Lib.hid hW
        rw [hW]
        clear hW
        have HOr2 : Hid (OwnR W w.heap.size m Dr) := Lib.hid (by rw [← HWE.out]; exact ownsMap_drewN HOr.out q0)
        have HOw2 : Hid (OwnW W (w.heap.size + 1) m Dw) := Lib.hid (by rw [← HWE.out]; exact ownsMap_drewN HOw.out q0)
        by_cases hil : I < L
        · have hTl := lt64 (Sh.solve_lt R I) (by omega)
          have HSD : Hid (Sh.solve R (I + 1) = match R (I + 1) with
              | some (r, b) => if Sh.dot (fun j => (r &&& Sh.solve R I).testBit j) (fun _ => true) 64 = b then Sh.solve R I else Sh.solve R I ||| (1 <<< I)
              | none => Sh.solve R I) := Lib.hid rfl
          obtain ⟨T, hT⟩ : ∃ T, Sh.solve R I = T := ⟨_, rfl⟩
          rw [hT] at hTl HSD ⊢
          clear hT
          have m1 : IntKind.i64.wrap ((I : Int) + 1) = (I : Int) + 1 := IntWalk.i64_in _ (by omega)
          cases hRk : R (I + 1) with
          | none =>
            rw [hRk] at HSD
            obtain ⟨q, hq⟩ := look_no HOr2.out HT.out (k := I + 1) (by omega) hRk
            rw [show ((I + 1 : Nat) : Int) = (I : Int) + 1 by omega] at hq
            clear hRk hTl
            go_wp2_with (first
              | (at_lookup; refine wpList_lookup_run _ rfl _ _ _ _ rfl rfl rfl hq ?_))
            clear hq
            go_quiet (fail)
            go_wp2
            go_roundw
            case rel => exact ⟨I + 1, by go_num, by omega, by rw [HSD.out], _, by rw [← HWE.out, World.drewN_drewN]⟩
            case measure => simp [intOf]; omega
          | some v =>
            obtain ⟨r, y⟩ := v
            rw [hRk] at HSD
            replace HSD : Hid (Sh.solve R (I + 1) = if Sh.dot (fun j => (r &&& T).testBit j) (fun _ => true) 64 = y then T else T ||| (1 <<< I)) := Lib.hid HSD.out
            have hq := look_yes HOr2.out HT.out (k := I + 1) (by omega) hRk
            have hq2 : ∀ n, (Instr.lookup 39 (.map (some (w.heap.size + 1))) (.int .i64 ((I : Int) + 1)) false).run Try.prog (W.drewN n) = .ok (.bool y) (W.drewN n) := fun n => by
              have := look_want (ownsMap_drewN HOw2.out n) HT.out (k := I + 1) (by omega) hRk
              rwa [show ((I + 1 : Nat) : Int) = (I : Int) + 1 by omega] at this
            rw [show ((I + 1 : Nat) : Int) = (I : Int) + 1 by omega] at hq
            obtain ⟨r1, r2, r3, r4⟩ := HO.out (I + 1) r y hRk
            have hrl := lt64 r4 (by omega)
            have ea := u64_and_nat r T hrl hTl
            have hQl : r &&& T < 18446744073709551616 := Nat.lt_of_le_of_lt Nat.and_le_left hrl
            have HC := Lib.hid fun W => shift_odd (r &&& T) W hQl
            obtain ⟨Q, hQ⟩ : ∃ Q, r &&& T = Q := ⟨_, rfl⟩
            rw [hQ] at ea HC HSD
            obtain ⟨z, hz'⟩ : ∃ z, Sh.dot (fun j => Q.testBit j) (fun _ => true) 64 = z := ⟨_, rfl⟩
            rw [hz'] at HC
            have HSD2 : Hid (Sh.solve R (I + 1) = if z = y then T else T ||| (1 <<< I)) := Lib.hid (by rw [HSD.out]; simp only [hz'])
            have eo : bits .or .u64 (T : Int) (IntKind.u64.wrap ((2 : Int) ^ I)) = ((T ||| (1 <<< I) : Nat) : Int) := by
              rw [u64_one I (by omega)]; exact u64_or_nat _ _ hTl (one_shift_lt (by omega))
            obtain ⟨T2, hT2⟩ : ∃ T2, T ||| (1 <<< I) = T2 := ⟨_, rfl⟩
            rw [hT2] at eo HSD2
            clear hRk r1 r2 r3 r4 hrl hQl hQ hz' hTl hT2 HSD
            by_cases hzy : z = y
            · have e1 : (z != y) = false := by simpa using hzy
              have e2 : (z == y) = true := by simpa using hzy
              have HS3 : Hid (Sh.solve R (I + 1) = T) := Lib.hid (by rw [HSD2.out, if_pos hzy])
              clear hzy
              go_wp2_with (first
                | (at_lookup; refine wpList_lookup_run _ rfl _ _ _ _ rfl rfl rfl hq ?_))
              clear hq
              go_quiet ((go_at_call 14; exact quiet_same (HC.out _)))
              go_wp2
              go_roundw
              case rel => exact ⟨I + 1, by go_num, by omega, by rw [HS3.out], _, by rw [← HWE.out, World.drewN_drewN]⟩
              case measure => simp [intOf]; omega
            · have e1 : (z != y) = true := by simpa using hzy
              have e2 : (z == y) = false := by simpa using hzy
              have HS3 : Hid (Sh.solve R (I + 1) = T2) := Lib.hid (by rw [HSD2.out, if_neg hzy])
              clear hzy
              go_wp2_with (first
                | (at_lookup; refine wpList_lookup_run _ rfl _ _ _ _ rfl rfl rfl hq ?_))
              clear hq
              go_quiet ((go_at_call 14; exact quiet_same (HC.out _)))
              go_wp2
              go_roundw
              case rel => exact ⟨I + 1, by go_num, by omega, by rw [HS3.out], _, by rw [← HWE.out, World.drewN_drewN]⟩
              case measure => simp [intOf]; omega
        · obtain rfl : I = L := by omega
          have hTl := lt64 (Sh.solve_lt R I) (by omega)
          have HM : Hid (Sh.Mk (fun i => Nat.testBit (Sh.solve R I) i) I s n) := Lib.hid ((HSat.out _).1 (Sh.solve_sat HO.out (by omega)))
          have hbW : Below w.heap.size w W := by rw [← HWE.out]; exact below_drewN HW2.out _
          have HC := Lib.hid (shift_list (Sh.solve R I) I W hTl (by omega))
          obtain ⟨T, hT⟩ : ∃ T, Sh.solve R I = T := ⟨_, rfl⟩
          rw [hT] at HC HM ⊢
          clear hT hTl
          go_wp2_with fail
          refine HC.out.mono ?_
          rintro e w1 ⟨⟨a', c', rfl, hrow⟩, hb1⟩
          go_wp2
          go_ret
          exact ⟨⟨a', c', T, rfl, hrow, HM.out⟩, below_two hbW hb1⟩
end Go.Proofs.Yteggmpogcpceeaa

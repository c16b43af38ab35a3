/- The walk of PadVernam. -/
import Derived.Test.YtabhmhojlhagcaaPadP
namespace Go.Proofs.Ytabhmhojlhagcaa
open Go.RowKit
set_option linter.unusedVariables false
set_option linter.unusedSimpArgs false
/-- a key's row -/
def vernL (n k : Nat) : List Int := (List.range n).map fun m => (((m + k) % n : Nat) : Int)
def vernR (n : Nat) : List (List Int) := (List.range n).map (vernL n)
theorem vern_mod {n a b c : Nat} (hb : b < n) (hc : c < n) (h : (a + b) % n = (a + c) % n) : b = c := by
  rcases Nat.le_total b c with g | g
  · have := M.dvd_sub_of_mod_eq h.symm
    rw [show a + c - (a + b) = c - b by omega] at this
    have := Nat.eq_zero_of_dvd_of_lt this (by omega)
    omega
  · have := M.dvd_sub_of_mod_eq h
    rw [show a + b - (a + c) = b - c by omega] at this
    have := Nat.eq_zero_of_dvd_of_lt this (by omega)
    omega
theorem vernL_len (n k : Nat) : (vernL n k).length = n := by simp [vernL]
theorem vernL_at {n k m : Nat} (h : m < n) : (vernL n k)[m]? = some (((m + k) % n : Nat) : Int) := by
  unfold vernL; rw [List.getElem?_map, List.getElem?_range h]; rfl
theorem vernL_next {n k I : Nat} (h : I < n) : (vernL n k).take (I + 1) = (vernL n k).take I ++ [(((I + k) % n : Nat) : Int)] := by
  rw [List.take_add_one, vernL_at h]; rfl
theorem vern_cip {n : Nat} (h0 : 1 ≤ n) (h1 : n ≤ 16) : Cip (vernR n) n n := by
  refine ⟨h0, h1, h0, h1, by simp [vernR], fun r hr => ?_, fun r hr x hx => ?_⟩
  · obtain ⟨k, _, rfl⟩ := List.mem_map.1 hr; exact vernL_len n k
  · obtain ⟨k, _, rfl⟩ := List.mem_map.1 hr
    obtain ⟨m, _, rfl⟩ := List.mem_map.1 hx
    have := Nat.mod_lt (m + k) (show 0 < n by omega)
    omega
theorem vern_plain {n : Nat} (h0 : 1 ≤ n) : plainB (vernR n) = true := List.all_eq_true.2 fun r hr => by
  obtain ⟨k, _, rfl⟩ := List.mem_map.1 hr
  have : (vernL n k).Nodup := M.nodup_map _ _ List.nodup_range fun x hx y hy e => by
    have e : (x + k) % n = (y + k) % n := by exact_mod_cast e
    rw [Nat.add_comm x, Nat.add_comm y] at e
    exact vern_mod (List.mem_range.1 hx) (List.mem_range.1 hy) e
  simpa using this
theorem vern_col {n m : Nat} (hm : m < n) : colL (vernR n) m = (List.range n).map fun k => (((m + k) % n : Nat) : Int) := by
  unfold colL vernR
  rw [List.map_map]
  refine List.map_congr_left fun k _ => ?_
  show (vernL n k).getD m 0 = _
  rw [List.getD_eq_getElem?_getD, vernL_at hm]; rfl
theorem vern_perf {n : Nat} (h0 : 1 ≤ n) : perfB (vernR n) n = true := List.all_eq_true.2 fun m hm => sameC_iff.2 fun x => by
  have hm := List.mem_range.1 hm
  rw [vern_col (show 0 < n by omega), vern_col hm]
  have hnd : ((List.range n).map fun k => (((m + k) % n : Nat) : Int)).Nodup := M.nodup_map _ _ List.nodup_range fun x hx y hy e => by
    have e : (m + x) % n = (m + y) % n := by exact_mod_cast e
    exact vern_mod (List.mem_range.1 hx) (List.mem_range.1 hy) e
  exact ((M.perm_of_inj _ ((List.range n).map fun k => (((0 + k) % n : Nat) : Int)) hnd (fun y hy => by
    obtain ⟨k, hk, rfl⟩ := List.mem_map.1 hy
    refine List.mem_map.2 ⟨(m + k) % n, List.mem_range.2 (Nat.mod_lt _ (by omega)), ?_⟩
    rw [Nat.zero_add, Nat.mod_mod]) (by simp)).count_eq x).symm
theorem own_below {W W' : World} {base n s : Nat} {e : TypeId} {v : Value} {xs : List Value} (h : W.ownsRow base e s v n xs) (hb : Below W.heap.size W W') : W'.ownsRow base e s v n xs := by
  refine ⟨h.1, ?_⟩
  rcases h.2 with h | ⟨g, cap, cur, h1, h2, h3, h4, h5, h6, h7⟩
  · exact .inl h
  · exact .inr ⟨g, cap, cur, h1, h2, (hb.block g (Array.getElem?_eq_some_iff.1 h3).1).trans h3, h4, h5, h6, h7⟩
theorem own_mono {W : World} {b b' n s : Nat} {e : TypeId} {v : Value} {xs : List Value} (h : W.ownsRow b e s v n xs) (hb : b' ≤ b) : W.ownsRow b' e s v n xs := by
  refine ⟨h.1, ?_⟩
  rcases h.2 with h | ⟨g, cap, cur, h1, h2, h3⟩
  · exact .inl h
  · exact .inr ⟨g, cap, cur, h1, Nat.le_trans hb h2, h3⟩
theorem own_ne {W : World} {b1 b2 n1 n2 s1 s2 : Nat} {e1 e2 : TypeId} {v1 v2 : Value} {xs ys : List Value} (he : e1 ≠ e2) (h1 : W.ownsRow b1 e1 s1 v1 n1 xs) (h2 : W.ownsRow b2 e2 s2 v2 n2 ys) : v1.ownBlock = none ∨ v1.ownBlock ≠ v2.ownBlock := by
  rcases h1.2 with ⟨rfl, _⟩ | ⟨g, cap, cur, rfl, _, hg, _⟩
  · exact .inl rfl
  · right
    rcases h2.2 with ⟨rfl, _⟩ | ⟨g', cap', cur', rfl, _, hg', _⟩
    · simp [Value.ownBlock]
    · simp only [Value.ownBlock]
      intro e
      obtain rfl : g = g' := Option.some.inj e
      rw [hg] at hg'
      injection Option.some.inj hg' with _ h3
      exact he h3
theorem own_rowI' {W : World} {base : Nat} {a : Option Addr} {c L : Nat} {e : TypeId} {xs : List Int} (hL : xs.length = L) (h : W.ownsRow base e 1 (.slice a L c) L (inV xs)) : RowL W a c xs := by
  obtain ⟨a', c', he, hr⟩ := own_rowI hL h
  injection he with e1 _ e2
  subst e1; subst e2; exact hr
theorem row_info : (Try.prog.info? 23).map (fun i => (i.zero, i.size, i.bytes)) = some (some (.slice none 0 0), 1, 24) := by kernel_rfl
/-- rows as values -/
def rowV (R : Nat → Option Addr × Nat) (n k : Nat) : List Value := (List.range k).map fun i => .slice (R i).1 n (R i).2
theorem own_rowsV {W : World} {base : Nat} {v : Value} {e : TypeId} {R : Nat → Option Addr × Nat} {n : Nat} (hr : ∀ i, i < n → RowL W (R i).1 (R i).2 (vernL n i)) (h0 : 1 ≤ n) (h : W.ownsRow base e 1 v n (rowV R n n)) :
    ∃ a c, v = .slice a n c ∧ RowR W a c R (vernR n) := by
  rcases h.2 with ⟨h1, h2⟩ | ⟨g, cap, cur, h1, h2, h3, h4, h5, h6, h7⟩
  · omega
  · refine ⟨_, cap, h1, (fun e => by cases e), (fun ad e i xs hx => ?_), (fun i xs hx => ?_), by simp [vernR]; exact h4⟩
    · cases e
      have hi : i < n := by have := (List.getElem?_eq_some_iff.1 hx).1; simpa [vernR] using this
      rw [add_at]
      have hxe : xs = vernL n i := by rw [vernR, List.getElem?_map, List.getElem?_range hi] at hx; simpa using hx.symm
      rw [hxe, vernL_len]
      have hu : (rowV R n n)[i]? = some (.slice (R i).1 n (R i).2) := by unfold rowV; rw [List.getElem?_map, List.getElem?_range hi]; rfl
      have hl := h.1
      rw [← h7, List.getElem?_take, if_pos (by omega)] at hu
      simp only [World.cell?]; rw [h3]; simpa using hu
    · have hi : i < n := by have := (List.getElem?_eq_some_iff.1 hx).1; simpa [vernR] using this
      have hxe : xs = vernL n i := by rw [vernR, List.getElem?_map, List.getElem?_range hi] at hx; simpa using hx.symm
      rw [hxe]; exact hr i hi
set_option maxHeartbeats 6400000 in
theorem pv_go (n : Nat) (w : World) (h0 : 1 ≤ n) (h1 : n ≤ 16) :
    Calls Try.prog 10 #[.int .i64 n] w fun e w' => e = .returned (.bool true) ∧ Below w.heap.size w w' := by
  have HP := Lib.hid fun a c R w h => pad_Plain a c R (vernR n) w n n h (vern_cip h0 h1)
  have HQ := Lib.hid fun a c R w h => pad_Perfect a c R (vernR n) w n n h (vern_cip h0 h1)
  rw [vern_plain h0] at HP
  rw [vern_perf h0] at HQ
  obtain ⟨i0, hi, hz0, hz1, hz2⟩ := info_parts int_info
  obtain ⟨j0, hj, hy0, hy1, hy2⟩ := info_parts row_info
  have hu : Try.prog.underlying 23 = some (.slice 3) := by kernel_rfl
  have hu2 : Try.prog.underlying 33 = some (.slice 23) := by kernel_rfl
  have nz : ((n : Int) == 0) = false := by simp; omega
  have nz2 : ¬ n = 0 := by omega
  have nz3 : ¬ (n : Int) = 0 := by omega
  go_enter Try.func10, Try.ntmps10
  go_wp2
  go_loopw [3, 4] (fun v i wr => ∃ (K : Nat) (R : Nat → Option Addr × Nat), i = .int .i64 K ∧ K ≤ n ∧ Below w.heap.size w wr ∧ wr.ownsRow w.heap.size 23 1 v K (rowV R n K) ∧ Hid (∀ i, i < K → wr.ownsRow w.heap.size 3 1 (.slice (R i).1 n (R i).2) n (inV (vernL n i)))) (fun _ i _ => n - (intOf i).toNat)
  case atStart => exact ⟨0, fun _ => (none, 0), rfl, Nat.zero_le _, Below.refl _ _, World.ownsRow_nil _ _ _ _, Lib.hid fun i h => absurd h (Nat.not_lt_zero _)⟩
  case round =>
    obtain ⟨K, R, rfl, hK, hb, ho, HRW⟩ := hrel
    obtain ⟨wo, rfl⟩ : ∃ wo : World, wo = wr := ⟨_, rfl⟩
    have hz := hb.size
    by_cases hlt : K < n
    · go_wp2
      go_loopw [5, 6] (fun v i wr => ∃ I : Nat, i = .int .i64 I ∧ I ≤ n ∧ Below wo.heap.size wo wr ∧ wr.ownsRow wo.heap.size 3 1 v I (inV ((vernL n K).take I))) (fun _ i _ => n - (intOf i).toNat)
      case atStart => exact ⟨0, rfl, Nat.zero_le _, Below.refl _ _, World.ownsRow_nil _ _ _ _⟩
      case round =>
        obtain ⟨I, rfl, hI, hb2, ho2⟩ := hrel
        have hz2' := hb2.size
        by_cases hlt2 : I < n
        · have HIN : Hid (inV ((vernL n K).take (I + 1)) = inV ((vernL n K).take I) ++ [.int .i64 (((I + K) % n : Nat) : Int)]) := Lib.hid (by rw [vernL_next hlt2]; simp [inV])
          have m1 : IntKind.i64.wrap ((I : Int) + K) = (I : Int) + K := IntWalk.i64_in _ (by omega)
          have m2 : ((I : Int) + K).tmod n = ((I : Int) + K) % n := Int.tmod_eq_emod_of_nonneg (by omega)
          have m3 : ((I : Int) + K) % (n : Int) = (((I + K) % n : Nat) : Int) := by norm_cast
          obtain ⟨q, hq⟩ : ∃ q, (I + K) % n = q := ⟨_, rfl⟩
          rw [hq] at HIN m3
          clear hq
          go_wp2_with (first
            | (at_builtin; refine wpList_append_own _ rfl _ _ 23 rfl wo.heap.size 3 i0 (.int .i64 0) 1 8 hu hi hz0 hz1 hz2 rfl (by decide) _ _ _ rfl (ho2.alloc _) ⟨wr.heap.size, 0, none⟩ 1 1 [.int .i64 (q : Int)] rfl rfl (cell_new1 _ _ _ rfl) (by simp [Value.oneCell']) (by unfold maxLen; omega) (by omega) (by simp; omega) ?_; intro v' w2 hown' hg2 hnil2))
          go_roundw
          case rel => exact ⟨I + 1, by go_num, by omega, (hb2.alloc (by omega) _).grown hg2 (by simp; omega) (fun j hj => (ho2.lt j hj).1), by rw [HIN.out]; exact hown'⟩
          case measure => simp [intOf]; omega
        · obtain rfl : I = n := by omega
          have hot := ho2
          rw [List.take_of_length_le (by rw [vernL_len]; exact Nat.le_refl _)] at hot
          obtain ⟨a', c', rfl, _⟩ := own_rowI (vernL_len I K) hot
          have HT := Lib.hid (own_mono hot hz)
          have ho3 := own_below ho hb2
          have HRX := Lib.hid fun i hi => own_below (HRW.out i hi) hb2
          clear ho2 hot ho
          go_wp2_with (first
            | (at_builtin; refine wpList_append_own _ rfl _ _ 33 rfl w.heap.size 23 j0 (.slice none 0 0) 1 24 hu2 hj hy0 hy1 hy2 rfl (by decide) _ _ _ rfl (ho3.alloc _) ⟨wr.heap.size, 0, none⟩ 1 1 [.slice a' I c'] rfl rfl (cell_new1 _ _ _ rfl) (by simp [Value.oneCell']) (by unfold maxLen; omega) (by omega) (by simp; omega) ?_; intro v' w2 hown' hg2 hnil2))
          go_roundw
          case rel =>
            have hbz : Below w.heap.size w wr := below_two hb hb2
            refine ⟨K + 1, fun i => if i = K then (a', c') else R i, by go_num, by omega, (hbz.alloc (by omega) _).grown hg2 (by simp; omega) (fun j hj => (ho3.lt j hj).1), ?_, ?_⟩
            · have e : rowV (fun i => if i = K then (a', c') else R i) I (K + 1) = rowV R I K ++ [.slice a' I c'] := by
                unfold rowV
                rw [List.range_succ, List.map_append]
                congr 1
                · refine List.map_congr_left fun i hi => ?_
                  have : i ≠ K := by have := List.mem_range.1 hi; omega
                  simp only [if_neg this]
                · simp
              rw [e]; exact hown'
            · refine Lib.hid fun i hi => ?_
              by_cases e : i = K
              · simp only [if_pos e]
                rw [e]
                have h9 : (wr.alloc (.cells #[.slice a' I c'] 23)).ownsRow w.heap.size 3 1 (.slice a' I c') I (inV (vernL I K)) := HT.out.alloc _
                exact h9.kept hg2 (own_ne (by decide) h9 (ho3.alloc (.cells #[.slice a' I c'] 23)))
              · simp only [if_neg e]
                have h9 := (HRX.out i (by omega)).alloc (.cells #[.slice a' I c'] 23)
                exact h9.kept hg2 (own_ne (by decide) h9 (ho3.alloc (.cells #[.slice a' I c'] 23)))
          case measure => simp [intOf]; omega
    · obtain rfl : K = n := by omega
      obtain ⟨a', c', rfl, hrr⟩ := own_rowsV (fun i hi => own_rowI' (vernL_len K i) (HRW.out i hi)) h0 ho
      have HR := Lib.hid hrr
      clear ho hrr
      go_wp2_with fail
      refine (HQ.out _ _ _ _ HR.out).mono ?_
      rintro e w2 ⟨rfl, hb2⟩
      have HR2 := Lib.hid (HR.out.below hb2 (Nat.le_refl _))
      go_wp2_with fail
      refine (HP.out _ _ _ _ HR2.out).mono ?_
      rintro e w3 ⟨rfl, hb3⟩
      go_wp2
      go_ret
      exact ⟨rfl, below_two hb (below_two hb2 hb3)⟩
theorem WPadVernam (a0 : Int) (w : World) (w0 : (Lit.int .i64 a0).wf = true) :
    Calls Try.prog 10 #[.int .i64 a0] w fun e w' => e = .returned (.bool true) ∧ Below w.heap.size w w' := by
  by_cases h0 : a0 < 1
  · clear w0
    go_enter Try.func10, Try.ntmps10
    go_wp2
    go_ret
    exact ⟨rfl, Below.refl _ _⟩
  by_cases h1 : 16 < a0
  · clear w0
    go_enter Try.func10, Try.ntmps10
    go_wp2
    go_ret
    exact ⟨rfl, Below.refl _ _⟩
  obtain ⟨n, rfl⟩ := Int.eq_ofNat_of_zero_le (show 0 ≤ a0 by omega)
  exact pv_go n w (by omega) (by omega)
end Go.Proofs.Ytabhmhojlhagcaa

/- The contracts of bytes.Equal and hash.mixes. -/
import Derived.Test.YtpikjahgnnejmaaByt
import Derived.Test.YtpikjahgnnejmaaClM
import Derived.Lib.Strings
import Derived.Lib.Bytes
import Derived.Laws.BytesArg
namespace Go.Proofs.Ytpikjahgnnejmaa
open Go.RowKit
set_option linter.unusedVariables false
set_option linter.unusedSimpArgs false
theorem bytesOf_nat {xs ys : List Nat} (h1 : ∀ x ∈ xs, x < 256) (h2 : ∀ x ∈ ys, x < 256) : (Lib.bytesOf (xs.map Int.ofNat) == Lib.bytesOf (ys.map Int.ofNat)) = (xs == ys) := by
  by_cases e : xs = ys
  · subst e; simp
  · rw [show (xs == ys) = false by rw [beq_eq_false_iff_ne]; exact e, beq_eq_false_iff_ne]
    intro h
    apply e
    clear e
    induction xs generalizing ys with
    | nil => cases ys with
      | nil => rfl
      | cons y ys => simp [Lib.bytesOf] at h
    | cons x xs ih => cases ys with
      | nil => simp [Lib.bytesOf] at h
      | cons y ys =>
        simp only [Lib.bytesOf, List.map_cons, List.cons.injEq] at h
        have a := h1 x (by simp)
        have b := h2 y (by simp)
        have : x = y := by
          have := congrArg UInt8.toNat h.1
          simp at this; omega
        subst this
        congr 1
        exact ih (fun z hz => h1 z (by simp [hz])) (fun z hz => h2 z (by simp [hz])) h.2
theorem conv_rowB {W : World} {a : Option Addr} {c : Nat} {xs : List Nat} (h : RowB W a c xs) :
    (convert 26 9 (.slice a xs.length c)).run Try.prog W = .ok (.string (strOfNums (xs.map Int.ofNat))) W := by
  have hu : Try.prog.underlying 26 = some (.slice 5) := by kernel_rfl
  have hu2 : Try.prog.underlying 5 = some (.int .u8) := by kernel_rfl
  have hu3 : Try.prog.underlying 9 = some .string := by kernel_rfl
  by_cases h0 : xs.length = 0
  · have hx : xs = [] := List.length_eq_zero_iff.1 h0
    rw [h0, hx]
    rw [run_convert_bytes_string W 26 9 5 _ 0 c hu hu2 hu3]
    cases a <;> simp [Conv.bytesToString, loadCells]
    all_goals rfl
  · obtain ⟨b, o, rfl, hc⟩ := h.shape (by omega)
    refine run_convert_bytes_arg (P := Try.prog) W 26 5 hu hu2 b o xs.length c (xs.map Int.ofNat) (by simp) (fun i hi => ?_) 9 hu3
    rw [hc i xs[i] (by rw [List.getElem?_eq_getElem hi])]
    simp [List.getD, hi]
set_option maxHeartbeats 1600000 in
theorem bytes_Equal (a b : Option Addr) (c d : Nat) (xs ys : List Nat) (w : World) (h1 : RowB w a c xs) (h2 : RowB w b d ys) (x1 : ∀ x ∈ xs, x < 256) (x2 : ∀ x ∈ ys, x < 256) :
    Calls Try.prog 28 #[.slice a xs.length c, .slice b ys.length d] w fun e w' => e = .returned (.bool (xs == ys)) ∧ w = w' := by
  have g1 := conv_rowB h1
  have g2 := conv_rowB h2
  rw [← bytesOf_nat x1 x2, ← Lib.strOfNums_toList, ← Lib.strOfNums_toList]
  obtain ⟨L, hL⟩ : ∃ L, xs.length = L := ⟨_, rfl⟩
  obtain ⟨M, hM⟩ : ∃ L, ys.length = L := ⟨_, rfl⟩
  rw [hL] at g1 ⊢
  rw [hM] at g2 ⊢
  clear hL hM h1 h2 x1 x2
  go_enter Try.func28, Try.ntmps28
  go_wp2
  go_ret
  exact ⟨rfl, rfl⟩
/-- the mixes of a list of bytes, as cells -/
def mixV (l : List Nat) (n : Nat) : List Value := (List.range n).flatMap fun j => [.int .u32 (stateN l j : Nat), .int .u8 (l.getD j 0 : Nat)]
theorem mixV_succ (l : List Nat) (n : Nat) : mixV l (n + 1) = mixV l n ++ [.int .u32 (stateN l n : Nat), .int .u8 (l.getD n 0 : Nat)] := by simp [mixV, List.range_succ]
theorem mixV_len (l : List Nat) (n : Nat) : (mixV l n).length = n * 2 := by
  induction n with
  | zero => rfl
  | succ n ih => rw [mixV_succ, List.length_append, ih]; simp; omega
theorem mixV_get (l : List Nat) (n j : Nat) (h : j < n) : (mixV l n)[j * 2]? = some (.int .u32 (stateN l j : Nat)) ∧ (mixV l n)[j * 2 + 1]? = some (.int .u8 (l.getD j 0 : Nat)) := by
  induction n with
  | zero => omega
  | succ n ih =>
    rw [mixV_succ]
    by_cases e : j = n
    · subst e
      rw [List.getElem?_append_right (by rw [mixV_len]; omega), List.getElem?_append_right (by rw [mixV_len]; omega), mixV_len, Nat.sub_self, Nat.add_sub_cancel_left]
      exact ⟨rfl, rfl⟩
    · have := ih (by omega)
      rw [List.getElem?_append_left (by rw [mixV_len]; omega), List.getElem?_append_left (by rw [mixV_len]; omega)]
      exact this
theorem mix_info : (Try.prog.info? 33).map (fun i => (i.zero, i.size, i.bytes)) = some (some (.agg #[.int .u32 0, .int .u8 0]), 2, 8) := by kernel_rfl
theorem cell_two_new (w : World) (u v : Value) (T : TypeId) : ∀ j x, [u, v][j]? = some x → (w.alloc (.cells #[u, v] T)).cell? ((⟨w.heap.size, 0, none⟩ : Addr).add j) = some x := by
  intro j x hx
  rw [add_at]
  rcases j with _ | _ | j
  · simp at hx; subst hx; simp [go_sem]
  · simp at hx; subst hx; simp [go_sem]
  · simp at hx
set_option maxRecDepth 20000 in
set_option maxHeartbeats 3200000 in
theorem hash_mixes (a : Option Addr) (c : Nat) (xs : List Nat) (w : World) (h : RowB w a c xs) (hl : xs.length ≤ 4096) (hx : ∀ x ∈ xs, x < 256) :
    Calls Try.prog 29 #[.slice a xs.length c] w fun e w' => ∃ v, e = .returned v ∧ Below w.heap.size w w' ∧ w'.ownsRow w.heap.size 33 2 v (xs.length + 4) (mixV (padN xs) (xs.length + 4)) := by
  have HP := Lib.hid (hash_padded a c xs w h (by omega))
  have hps : ∀ x ∈ padN xs, x < 256 := fun x hm => by
    rcases List.mem_append.1 hm with h | h
    · exact hx x h
    · exact litN_lt _ _ x h
  have HPL := Lib.hid (padN_len xs)
  obtain ⟨L, hL⟩ : ∃ L, L = xs.length := ⟨_, rfl⟩
  rw [← hL] at HP hl HPL ⊢
  obtain ⟨ps, hps'⟩ : ∃ ps, padN xs = ps := ⟨_, rfl⟩
  rw [hps'] at HP hps HPL ⊢
  clear hL hps' h hx
  have HX := Lib.hid hps
  clear hps
  obtain ⟨i0, hi, hz0, hz1, hz2⟩ := info_parts mix_info
  have hu : Try.prog.underlying 67 = some (.slice 33) := by kernel_rfl
  go_enter Try.func29, Try.ntmps29
  go_wp2_with fail
  refine HP.out.mono ?_
  rintro e w1 ⟨v, rfl, hb1, hr⟩
  obtain ⟨a2, c2, rfl, h2, ha⟩ : ∃ a c, v = .slice a ps.length c ∧ RowB w1 a c ps ∧ ∀ ad, a = some ad → ∃ g, ad = ⟨g, 0, none⟩ := own_rowB (by rw [HPL.out]; exact hr)
  rw [HPL.out]
  clear hr
  have z1 := hb1.size
  go_wp2
  go_loopw [3, 4, 10] (fun v h i wr => ∃ I : Nat, i = .int .i64 I ∧ I ≤ L + 4 ∧ h = .int .u32 (stateN ps I : Nat) ∧ Below w1.heap.size w1 wr ∧ wr.ownsRow w1.heap.size 33 2 v I (mixV ps I)) (fun _ _ i _ => L + 4 - (intOf i).toNat)
  case atStart => exact ⟨0, rfl, by omega, rfl, Below.refl _ _, World.ownsRow_nil _ _ _ _⟩
  case round =>
    obtain ⟨I, rfl, hI, rfl, hb, hr⟩ := hrel
    have zb := hb.size
    obtain ⟨T, hT⟩ : ∃ T, stateN ps I = T := ⟨_, rfl⟩
    have hT1 : T < 65536 := by rw [← hT]; exact stateN_lt _ _
    rw [hT]
    have HT := Lib.hid hT
    clear hT
    by_cases hlt : I < L + 4
    · obtain ⟨x, hx⟩ : ∃ x, ps[I]? = some x := ⟨_, List.getElem?_eq_getElem (by rw [HPL.out]; exact hlt)⟩
      have hx2 : x < 256 := HX.out x (List.mem_of_getElem? hx)
      have HN : Hid (stateN ps (I + 1) = M.stepN T x) := Lib.hid (by rw [stateN_succ hx, HT.out])
      have HG : Hid (mixV ps (I + 1) = mixV ps I ++ [.int .u32 (T : Int), .int .u8 (x : Int)]) := Lib.hid (by rw [mixV_succ, HT.out, List.getD_eq_getElem?_getD, hx]; rfl)
      have hu2 : (byV ps)[I]? = some (.int .u8 (x : Int)) := by simp [byV, hx]
      have h3 := h2.below hb (Nat.le_refl _)
      rcases a2 with _ | ad
      · have := (h2.1 rfl).1; subst this; simp at hx
      · obtain ⟨g, rfl⟩ := ha ad rfl
        have kx := h3.2 _ rfl I _ hu2
        rw [add_at] at kx
        have HR := Lib.hid hr
        clear hu2 hx hr h3
        go_wp2_with (first
          | (at_builtin; refine wpList_append_own _ rfl _ _ 67 rfl w1.heap.size 33 i0 (.agg #[.int .u32 0, .int .u8 0]) 2 8 hu hi hz0 hz1 hz2 rfl (by decide) _ _ _ rfl (HR.out.alloc _) ⟨wr.heap.size, 0, none⟩ 1 1 [.int .u32 (T : Int), .int .u8 (x : Int)] rfl rfl (cell_two_new _ _ _ _) (by simp [Value.oneCell']) (by unfold maxLen; omega) (by omega) (by simp; omega) ?_; intro v' w2 hown' hg2 hnil2)
          | fail)
        have hbb : Below w1.heap.size w1 w2 := (hb.alloc (by omega) _).grown hg2 (by simp; omega) (fun j hj => (HR.out.lt j hj).1)
        refine (hash_Step T x _ hT1 hx2).mono ?_
        rintro e w3 ⟨rfl, rfl⟩
        go_wp2
        go_round
        case rel => exact ⟨I + 1, by go_num, by omega, by rw [HN.out], hbb, by rw [HG.out]; exact hown'⟩
        case measure => simp [intOf]; omega
    · obtain rfl : I = L + 4 := by omega
      go_wp2
      go_ret
      refine ⟨_, rfl, hb1.trans (hb.mono z1), ?_⟩
      exact own_lower hr z1
end Go.Proofs.Ytpikjahgnnejmaa

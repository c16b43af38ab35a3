/- The walk of the statement CellBack. -/
import Derived.Test.YtpikjahgnnejmaaWTurn
namespace Go.Proofs.Ytpikjahgnnejmaa
open Go.RowKit
set_option linter.unusedVariables false
set_option linter.unusedSimpArgs false
theorem cell_take {k n : Nat} {xs : List Nat} (h : xs.length ≤ 14) : (cellN k n xs).take 15 = bodyN xs := by
  have lb := bodyN_len h
  unfold cellN
  rw [List.take_append_of_le_length (by omega), List.take_of_length_le (by omega)]
theorem cell_drop {k n : Nat} {xs : List Nat} (h : xs.length ≤ 14) : (cellN k n xs).drop 15 = csumN k n (bodyN xs) := by
  have lb := bodyN_len h
  unfold cellN
  rw [List.drop_append_of_le_length (by omega), List.drop_eq_nil_of_le (by omega), List.nil_append]
theorem fits_cell {k n : Nat} {xs : List Nat} (h : xs.length ≤ 14) : fitsB k n (cellN k n xs) = true := by
  unfold fitsB
  rw [cell_take h, cell_drop h]; simp
theorem cell_head (k n : Nat) (xs : List Nat) : (cellN k n xs).headD 0 = xs.length := rfl
theorem form_cell {k n : Nat} {xs : List Nat} (h : xs.length ≤ 14) : formB (cellN k n xs) = true := by
  unfold formB
  rw [cell_head, cell_take h, decide_eq_true h, Bool.true_and, Nat.add_comm 1]
  unfold bodyN
  rw [List.drop_succ_cons, List.drop_left]
  simp
theorem read_cell {k n : Nat} {xs : List Nat} (h : xs.length ≤ 14) : readN (cellN k n xs) = xs := by
  unfold readN
  rw [cell_head]
  unfold cellN bodyN
  rw [List.cons_append, List.drop_succ_cons, List.drop_zero, List.append_assoc, List.take_left]
theorem cell_read {k n : Nat} {zs : List Nat} (hl : zs.length = 17) (hf : fitsB k n zs = true) (hm : formB zs = true) : (readN zs).length ≤ 14 ∧ cellN k n (readN zs) = zs := by
  rcases zs with _ | ⟨N, t⟩
  · simp at hl
  · have ht : t.length = 16 := by simpa using hl
    have hm2 : N ≤ 14 ∧ ((t.take 14).drop N).all (fun x => x == 0) = true := by
      simp only [formB, List.headD_cons, Bool.and_eq_true, decide_eq_true_eq] at hm
      rw [List.take_succ_cons, Nat.add_comm 1, List.drop_succ_cons] at hm
      exact ⟨of_decide_eq_true hm.1, hm.2⟩
    have hr : readN (N :: t) = t.take N := by simp [readN]
    have hrl : (t.take N).length = N := by rw [List.length_take]; omega
    have hz : (t.take 14).drop N = List.replicate (14 - N) 0 := by
      rw [List.eq_replicate_iff]
      refine ⟨by rw [List.length_drop, List.length_take]; omega, fun b hb => ?_⟩
      have := List.all_eq_true.1 hm2.2 b hb
      simpa using this
    have hb : bodyN (t.take N) = (N :: t).take 15 := by
      unfold bodyN
      rw [hrl, ← hz, List.take_succ_cons]
      congr 1
      rw [show t.take N = (t.take 14).take N by rw [List.take_take, Nat.min_eq_left hm2.1], List.take_append_drop]
    rw [hr]
    refine ⟨by omega, ?_⟩
    unfold cellN
    rw [hb]
    have := hf
    unfold fitsB at this
    rw [beq_iff_eq] at this
    rw [← this, List.take_append_drop]
theorem readN_lt {zs : List Nat} (h : ∀ x ∈ zs, x < 256) : ∀ x ∈ readN zs, x < 256 := fun x hm => h x (List.mem_of_mem_drop (List.mem_of_mem_take hm))
/-- what is read of any bytes -/
def ReadQ (k n : Nat) (zs : List Nat) (w : World) (e : Ending) (w' : World) : Prop :=
  Below w.heap.size w w' ∧ ((∃ t : Int, ¬ t = 0 ∧ e = .returned (.tuple #[.slice none 0 0, .int .i64 t])) ∨
    ∃ a c bs, e = .returned (.tuple #[.slice a bs.length c, .int .i64 0]) ∧ RowB w' a c bs ∧ bs.length ≤ 14 ∧ (∀ x ∈ bs, x < 256) ∧ cellN k n bs = zs ∧ bs = readN zs)
theorem Read_all (k n : Nat) (a : Option Addr) (c : Nat) (zs : List Nat) (w : World) (hk : k < 65536) (hn : n ≤ 2147483648) (h : RowB w a c zs) (hL : zs.length ≤ maxLen) (hc : zs.length ≤ c) (hx : ∀ x ∈ zs, x < 256) :
    Calls Try.prog 20 #[.int .i64 k, .int .i64 n, .slice a zs.length c] w (ReadQ k n zs w) := by
  have ho : outB k n = false := outB_no.2 ⟨by omega, by omega, by omega, by omega⟩
  by_cases hl : zs.length = 17
  · obtain ⟨b, o, rfl, _⟩ := h.shape (by omega)
    rw [hl]
    cases hf : fitsB k n zs with
    | false => exact (Read_sum k n b o c zs w hk hn h hl (by omega) hx hf).mono fun e w' ⟨he, hb⟩ => ⟨hb, .inl ⟨8, by omega, he⟩⟩
    | true =>
      refine (Read_yes k n b o c zs w hk hn h hl (by omega) hx hf).mono fun e w' ⟨hb, h⟩ => ⟨hb, ?_⟩
      rcases h with ⟨_, t, ht, he⟩ | ⟨hm, a', c', he, hr⟩
      · exact .inl ⟨t, ht, he⟩
      · obtain ⟨h1, h2⟩ := cell_read hl hf hm
        exact .inr ⟨a', c', readN zs, he, hr, h1, readN_lt hx, h2, rfl⟩
  · exact (Read_no k n a c zs.length w (.inr ⟨ho, hl⟩) hL).mono fun e w' ⟨h, hw⟩ => ⟨hw ▸ Below.refl _ _, .inl h⟩
theorem Read_cell (k n : Nat) (a : Option Addr) (c : Nat) (xs : List Nat) (w : World) (hk : k < 65536) (hn : n ≤ 2147483648) (hl : xs.length ≤ 14) (hx : ∀ x ∈ xs, x < 256) (h : RowB w a c (cellN k n xs)) (hc : 17 ≤ c) :
    Calls Try.prog 20 #[.int .i64 k, .int .i64 n, .slice a 17 c] w fun e w' => (∃ a' c', e = .returned (.tuple #[.slice a' xs.length c', .int .i64 0]) ∧ RowB w' a' c' xs) ∧ Below w.heap.size w w' := by
  have hcl := cellN_len (k := k) (n := n) hl
  obtain ⟨b, o, rfl, _⟩ := h.shape (by omega)
  refine (Read_yes k n b o c _ w hk hn h hcl hc (cellN_lt hl hx) (fits_cell hl)).mono fun e w' ⟨hb, h⟩ => ⟨?_, hb⟩
  rcases h with ⟨hf, _⟩ | ⟨_, a', c', he, hr⟩
  · rw [form_cell hl] at hf; cases hf
  · rw [read_cell hl] at he hr
    exact ⟨a', c', he, hr⟩
/-- what is made of any body -/
def MakeQ (k n : Nat) (xs : List Nat) (w : World) (e : Ending) (w' : World) : Prop :=
  Below w.heap.size w w' ∧ ((14 < xs.length ∧ ∃ t : Int, ¬ t = 0 ∧ e = .returned (.tuple #[.slice none 0 0, .int .i64 t])) ∨
    (xs.length ≤ 14 ∧ ∃ a c, e = .returned (.tuple #[.slice a 17 c, .int .i64 0]) ∧ RowB w' a c (cellN k n xs) ∧ 17 ≤ c))
theorem Make_all (k n : Nat) (a : Option Addr) (c : Nat) (xs : List Nat) (w : World) (hk : k < 65536) (hn : n ≤ 2147483648) (h : RowB w a c xs) (hL : xs.length ≤ maxLen) (hx : ∀ x ∈ xs, x < 256) :
    Calls Try.prog 19 #[.int .i64 k, .int .i64 n, .slice a xs.length c] w (MakeQ k n xs w) := by
  have ho : outB k n = false := outB_no.2 ⟨by omega, by omega, by omega, by omega⟩
  by_cases hl : xs.length ≤ 14
  · refine (cell_Make k n a c xs w hk hn h hl hx).mono fun e w' ⟨v, he, hb, hr⟩ => ⟨hb, .inr ⟨hl, ?_⟩⟩
    obtain ⟨g, cap, rfl, _, _, hg, _⟩ := own_shape hr (by omega)
    exact ⟨_, cap, he, row_own hr, hg⟩
  · exact (Make_no k n a c xs.length w (.inr ⟨ho, by omega⟩) hL).mono fun e w' ⟨h, hw⟩ => ⟨hw ▸ Below.refl _ _, .inl ⟨by omega, h⟩⟩
theorem IsRow.cap {k : IntKind} {W : World} {a : Option Addr} {len cap : Nat} {zs : List Int} (h : IsRow k W a len cap zs) : len ≤ cap := by
  rcases h with ⟨_, rfl, rfl, _⟩ | ⟨_, _, h, _⟩
  · exact Nat.le_refl _
  · exact h
set_option maxRecDepth 100000 in
set_option maxHeartbeats 6400000 in
theorem WCellBack (a0 : Int) (a1 : Int) (a2 : Option Addr) (len2 cap2 : Nat) (z2 : List Int) (a3 : Option Addr) (len3 cap3 : Nat) (z3 : List Int) (w : World) (w0 : (Lit.int .i64 a0).wf = true) (w1 : (Lit.int .i64 a1).wf = true) (w2 : IsRow .u8 w a2 len2 cap2 z2) (w3 : IsRow .u8 w a3 len3 cap3 z3) :
    Calls Try.prog 7 #[.int .i64 a0, .int .i64 a1, .slice a2 len2 cap2, .slice a3 len3 cap3] w fun e w' => e = .returned (.bool true) ∧ Below w.heap.size w w' := by
  obtain ⟨xs, hlen, hrow, hxs, hmax⟩ := w2.bytes
  obtain ⟨zs, hlen3, hrow3, hzs, hmax3⟩ := w3.bytes
  have hcap3 := w3.cap
  clear w0 w1 w2 w3
  have HC := Lib.hid fun w => ref_CellCheck a0 a1 w
  by_cases ho : outB a0 a1 = true
  · have HM := Lib.hid fun w => Make_no a0 a1 a2 cap2 len2 w (.inl ho) hmax
    have HR := Lib.hid fun w => Read_no a0 a1 a3 cap3 len3 w (.inl ho) hmax3
    rw [ho] at HC
    unfold maxLen at hmax hmax3
    clear ho hrow hxs hlen hlen3 hrow3 hzs
    go_enter Try.func7, Try.ntmps7
    go_wp2_with fail
    refine (HM.out _).mono ?_
    rintro e w' ⟨⟨t, ht, rfl⟩, rfl⟩
    have t1 : (t == 0) = false := by simpa using ht
    have t2 : (t != 0) = true := by simpa using ht
    go_wp2_with fail
    refine (HR.out _).mono ?_
    rintro e w' ⟨⟨u, hu, rfl⟩, rfl⟩
    have u1 : (u == 0) = false := by simpa using hu
    have u2 : (u != 0) = true := by simpa using hu
    go_wp2_with fail
    refine (HC.out _).mono ?_
    rintro e w' ⟨rfl, rfl⟩
    go_wp2
    go_ret
    exact ⟨ret_bool (by simp), Below.refl _ _⟩
  · have ho : outB a0 a1 = false := by simpa using ho
    rw [ho] at HC
    obtain ⟨h1, h2, h3, h4⟩ := outB_no.1 ho
    obtain ⟨k, rfl⟩ := Int.eq_ofNat_of_zero_le h1
    obtain ⟨n, rfl⟩ := Int.eq_ofNat_of_zero_le h3
    have hk : k < 65536 := by omega
    have hn : n ≤ 2147483648 := by omega
    subst hlen hlen3
    have HM := Lib.hid (Make_all k n a2 cap2 xs w hk hn hrow hmax hxs)
    have HR := Lib.hid fun w' (hb : Below w.heap.size w w') => Read_all k n a3 cap3 zs w' hk hn (hrow3.below hb (Nat.le_refl _)) hmax3 hcap3 hzs
    have HX := Lib.hid hxs
    have HZ := Lib.hid hzs
    have HRX := Lib.hid hrow
    have HRZ := Lib.hid hrow3
    have HLX := Lib.hid (rfl : xs.length = xs.length)
    obtain ⟨L, hL⟩ : ∃ L, L = xs.length := ⟨_, rfl⟩
    obtain ⟨M, hM⟩ : ∃ M, M = zs.length := ⟨_, rfl⟩
    have HL := Lib.hid hL
    have HMM := Lib.hid hM
    rw [← hL] at HM hmax ⊢
    rw [← hM] at HR hmax3 ⊢
    unfold maxLen at hmax hmax3
    clear ho h1 h2 h3 h4 hrow hrow3 hxs hzs hL hM HLX
    have hcx := fun (h : xs.length ≤ 14) => cellN_lt (k := k) (n := n) h HX.out
    have HCX := Lib.hid hcx
    clear hcx
    go_enter Try.func7, Try.ntmps7
    go_wp2_with fail
    refine HM.out.mono ?_
    rintro e w1 ⟨hb1, hmk⟩
    have HMK := Lib.hid hmk
    clear hmk
    obtain ⟨v, t, rfl, HV⟩ : ∃ v t, e = .returned (.tuple #[v, .int .i64 t]) ∧ Hid ((14 < L ∧ ¬ t = 0) ∨ (L ≤ 14 ∧ t = 0 ∧ ∃ a c, v = .slice a 17 c ∧ RowB w1 a c (cellN k n xs) ∧ 17 ≤ c)) := by
      rcases HMK.out with ⟨h, t, ht, rfl⟩ | ⟨h, a, c, rfl, hr, hc⟩
      · exact ⟨_, t, rfl, Lib.hid (.inl ⟨by rw [HL.out]; exact h, ht⟩)⟩
      · exact ⟨_, 0, rfl, Lib.hid (.inr ⟨by rw [HL.out]; exact h, rfl, a, c, rfl, hr, hc⟩)⟩
    clear HMK HM
    go_wp2_with fail
    refine (HR.out _ hb1).mono ?_
    rintro e w2 ⟨hb2, hrd⟩
    have hb2' := hb2
    replace hb2 := below_two hb1 hb2'
    rcases hrd with ⟨u, hu, rfl⟩ | ⟨a', c', bs, rfl, hr2, hbl, hbx, hcell, _⟩
    · have u1 : (u == 0) = false := by simpa using hu
      have u2 : (u != 0) = true := by simpa using hu
      have HK := Lib.hid fun a c (h : RowB w1 a c (cellN k n xs)) => h.below hb2' (Nat.le_refl _)
      clear hb2'
      go_wp2_with fail
      refine (HC.out _).mono ?_
      rintro e w' ⟨rfl, rfl⟩
      rcases HV.out with ⟨hl, ht⟩ | ⟨hl, rfl, a, c, rfl, hr, hc⟩
      · have t1 : (t == 0) = false := by simpa using ht
        have t2 : (t != 0) = true := by simpa using ht
        have d1 : decide (14 < (L : Int)) = true := decide_eq_true (by omega)
        go_wp2
        go_ret
        exact ⟨ret_bool (by simp), hb2⟩
      · have d1 : decide (14 < (L : Int)) = false := decide_eq_false (by omega)
        have hlx : xs.length ≤ 14 := by rw [← HL.out]; exact hl
        have HRd := Lib.hid (Read_cell k n a c xs w2 hk hn hlx HX.out (HK.out a c hr) hc)
        rw [← HL.out] at HRd
        clear hr hlx
        go_wp2_with fail
        refine HRd.out.mono ?_
        rintro e w5 ⟨⟨a5, c5, rfl, hr5⟩, hb5⟩
        replace hb5 := below_two hb2 hb5
        have HBy := ref_Bytes a5 a2 c5 cap2 xs xs w5 hr5 (HRX.out.below hb5 (Nat.le_refl _)) (by rw [← HL.out]; omega) (by rw [← HL.out]; omega) HX.out HX.out
        rw [← HL.out, show (xs == xs) = true by simp] at HBy
        go_wp2_with fail
        refine HBy.mono ?_
        rintro e w6 ⟨rfl, hb6⟩
        go_wp2
        go_ret
        exact ⟨ret_bool (by simp), below_two hb5 hb6⟩
    · have HMa := Lib.hid (Make_all k n a' c' bs w2 hk hn hr2 (by unfold maxLen; omega) hbx)
      have HBL := Lib.hid hbl
      have HCE := Lib.hid hcell
      obtain ⟨N, hN⟩ : ∃ N, bs.length = N := ⟨_, rfl⟩
      rw [hN] at HMa ⊢
      have HN := Lib.hid hN
      have HMl : Hid (M = 17) := Lib.hid (by rw [HMM.out, ← hcell]; exact cellN_len hbl)
      have HZc := Lib.hid (cellN_lt (k := k) (n := n) hbl hbx)
      clear hN hbl hcell hr2 hbx
      go_wp2_with fail
      refine (HC.out _).mono ?_
      rintro e w' ⟨rfl, rfl⟩
      go_wp2_with fail
      refine HMa.out.mono ?_
      rintro e w3 ⟨hb3', hm3⟩
      obtain ⟨a3', c3', rfl, hr3⟩ : ∃ a c, e = .returned (.tuple #[.slice a 17 c, .int .i64 0]) ∧ RowB w3 a c (cellN k n bs) := by
        rcases hm3 with ⟨h, _⟩ | ⟨_, a, c, he, hr, _⟩
        · exact absurd HBL.out (by omega)
        · exact ⟨a, c, he, hr⟩
      have hb3 := below_two hb2 hb3'
      have HBz := ref_Bytes a3' a3 c3' cap3 zs zs w3 (by rw [← HCE.out]; exact hr3) (HRZ.out.below hb3 (Nat.le_refl _)) (by rw [← HMM.out, HMl.out]; omega) (by rw [← HMM.out, HMl.out]; omega) HZ.out HZ.out
      rw [show (zs == zs) = true by simp, ← HMM.out, HMl.out] at HBz
      have HBz' := Lib.hid HBz
      have HM17 := HMl.out
      subst HM17
      clear HBz hm3 hr3
      go_wp2_with fail
      refine HBz'.out.mono ?_
      rintro e w4 ⟨rfl, hb4⟩
      have HK := Lib.hid fun a c (h : RowB w1 a c (cellN k n xs)) => (((h.below hb2' (Nat.le_refl _)).below hb3' (Nat.le_refl _)).below hb4 (Nat.le_refl _))
      replace hb2 := below_two hb3 hb4
      clear hb2' hb3' hb4 hb3
      rcases HV.out with ⟨hl, ht⟩ | ⟨hl, rfl, a, c, rfl, hr, hc⟩
      · have t1 : (t == 0) = false := by simpa using ht
        have t2 : (t != 0) = true := by simpa using ht
        have d1 : decide (14 < (L : Int)) = true := decide_eq_true (by omega)
        go_wp2
        go_ret
        exact ⟨ret_bool (by simp), hb2⟩
      · have d1 : decide (14 < (L : Int)) = false := decide_eq_false (by omega)
        have hlx : xs.length ≤ 14 := by rw [← HL.out]; exact hl
        have HRd := Lib.hid (Read_cell k n a c xs w4 hk hn hlx HX.out (HK.out a c hr) hc)
        rw [← HL.out] at HRd
        clear hr hlx
        go_wp2_with fail
        refine HRd.out.mono ?_
        rintro e w5 ⟨⟨a5, c5, rfl, hr5⟩, hb5⟩
        replace hb5 := below_two hb2 hb5
        have HBy := ref_Bytes a5 a2 c5 cap2 xs xs w5 hr5 (HRX.out.below hb5 (Nat.le_refl _)) (by rw [← HL.out]; omega) (by rw [← HL.out]; omega) HX.out HX.out
        rw [← HL.out, show (xs == xs) = true by simp] at HBy
        go_wp2_with fail
        refine HBy.mono ?_
        rintro e w6 ⟨rfl, hb6⟩
        go_wp2
        go_ret
        exact ⟨ret_bool (by simp), below_two hb5 hb6⟩
end Go.Proofs.Ytpikjahgnnejmaa

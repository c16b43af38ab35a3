/- ContainsFunc over points; the contract of share.Join. -/
import Derived.Test.YtfgmnlphejpcaaaThr
import Derived.Shelf.Abstract
namespace Go.Proofs.Ytfgmnlphejpcaaa
open Go.RowKit
set_option linter.unusedVariables false
set_option linter.unusedSimpArgs false
set_option maxHeartbeats 1600000 in
theorem idx_points (g : Nat) (lb : Array Value) (eg : ∀ args w, (callFunc g args).run Try.prog w = .ok (.enter g args) w) (p : Int × Int → Bool) (a : Option Addr) (c : Nat) (xs : List (Int × Int)) (w : World) (h : RowP w a c xs) (hl : xs.length ≤ 1048576) 
    (hp : ∀ W x, Below w.heap.size w W → x ∈ xs → Calls Try.prog g (#[.agg #[.int .i64 x.1, .int .i64 x.2]] ++ lb) W fun e w' => e = .returned (.bool (p x)) ∧ Below W.heap.size W w') :
    Calls Try.prog 72 #[.slice a xs.length c, .func (.func g) #[] lb] w fun e w' => (∃ r : Int, e = .returned (.int .i64 r) ∧ decide (0 ≤ r) = xs.any p) ∧ Below w.heap.size w w' := by
  have HP := Lib.hid hp
  have HR := Lib.hid h
  obtain ⟨L, hL⟩ : ∃ L, L = xs.length := ⟨_, rfl⟩
  have HL := Lib.hid hL
  rw [← hL] at hl ⊢
  clear hL h hp
  go_enter Try.func72, Try.ntmps72
  go_wp2
  go_loopw [8] (fun i wr => ∃ I : Nat, i = .int .i64 I ∧ I ≤ L ∧ Hid (∀ j x, j < I → xs[j]? = some x → p x = false) ∧ Below w.heap.size w wr) (fun i _ => L - (intOf i).toNat)
  case atStart => exact ⟨0, rfl, by omega, Lib.hid (fun j x h => absurd h (Nat.not_lt_zero _)), Below.refl _ _⟩
  case round =>
    obtain ⟨I, rfl, hI, HA, hb⟩ := hrel
    by_cases hlt : I < L
    · obtain ⟨x, hx⟩ : ∃ x, xs[I]? = some x := ⟨_, List.getElem?_eq_getElem (by rw [← HL.out]; exact hlt)⟩
      have hx2 := List.mem_of_getElem? hx
      obtain ⟨b, o, rfl, hc⟩ := (HR.out.below hb (Nat.le_refl _)).shape (by rw [← HL.out]; omega)
      obtain ⟨kx, ky⟩ := hc I x hx
      obtain ⟨x1, x2⟩ := x
      simp only at kx ky
      have HC := Lib.hid (HP.out wr (x1, x2) hb hx2)
      have HXI := Lib.hid hx
      have HB := Lib.hid hb
      clear hx hc hb
      obtain ⟨q, hq⟩ : ∃ q, p (x1, x2) = q := ⟨_, rfl⟩
      rw [hq] at HC
      have HQ := Lib.hid hq
      clear hq
      cases q with
      | true =>
        go_wp2_with (go_at_fn g; refine HC.out.mono ?_; rintro e w' ⟨rfl, hb'⟩)
        go_ret
        refine ⟨⟨_, rfl, ?_⟩, below_two HB.out hb'⟩
        rw [decide_eq_true (by omega : (0 : Int) ≤ (I : Int))]
        symm
        exact List.any_eq_true.2 ⟨(x1, x2), List.mem_of_getElem? HXI.out, HQ.out⟩
      | false =>
        go_wp2_with (go_at_fn g; refine HC.out.mono ?_; rintro e w' ⟨rfl, hb'⟩)
        go_round
        case rel =>
          refine ⟨I + 1, by go_num, by omega, Lib.hid (fun j y hj hy => ?_), below_two HB.out hb'⟩
          by_cases e : j = I
          · subst e
            have := HXI.out
            rw [hy] at this
            rw [Option.some.inj this]; exact HQ.out
          · exact HA.out j y (by omega) hy
        case measure => simp [intOf]; omega
    · go_wp2
      go_ret
      refine ⟨⟨_, rfl, ?_⟩, hb⟩
      symm
      rw [decide_eq_false (by omega), Bool.eq_false_iff]
      intro hany
      obtain ⟨x, hm, hpx⟩ := List.any_eq_true.1 hany
      obtain ⟨j, hj⟩ := List.getElem?_of_mem hm
      have := HA.out j x (by have := (List.getElem?_eq_some_iff.1 hj).1; have := HL.out; omega) hj
      rw [hpx] at this; cases this
theorem contains_points (g : Nat) (lb : Array Value) (eg : ∀ args w, (callFunc g args).run Try.prog w = .ok (.enter g args) w) (p : Int × Int → Bool) (a : Option Addr) (c : Nat) (xs : List (Int × Int)) (w : World) (h : RowP w a c xs) (hl : xs.length ≤ 1048576) 
    (hp : ∀ W x, Below w.heap.size w W → x ∈ xs → Calls Try.prog g (#[.agg #[.int .i64 x.1, .int .i64 x.2]] ++ lb) W fun e w' => e = .returned (.bool (p x)) ∧ Below W.heap.size W w') :
    Calls Try.prog 53 #[.slice a xs.length c, .func (.func g) #[] lb] w fun e w' => e = .returned (.bool (xs.any p)) ∧ Below w.heap.size w w' := by
  have HI := Lib.hid (idx_points g lb eg p a c xs w h hl hp)
  obtain ⟨L, hL⟩ : ∃ L, L = xs.length := ⟨_, rfl⟩
  rw [← hL] at HI ⊢
  obtain ⟨B, hB⟩ : ∃ B, xs.any p = B := ⟨_, rfl⟩
  rw [hB] at HI ⊢
  clear hL h hl hp eg hB
  go_enter Try.func53, Try.ntmps53
  go_wp2_with fail
  refine HI.out.mono ?_
  rintro e w1 ⟨⟨r, rfl, hr⟩, hb⟩
  have HRr := Lib.hid hr
  clear hr
  go_wp2
  go_ret
  exact ⟨ret_bool HRr.out, hb⟩
theorem share_zero (x y : Int) (w : World) : Calls Try.prog 54 #[.agg #[.int .i64 x, .int .i64 y]] w fun e w' => e = .returned (.bool (x == 0)) ∧ Below w.heap.size w w' := by
  by_cases h : x = 0
  · subst h
    go_enter Try.func54, Try.ntmps54
    go_wp2
    go_ret
    exact ⟨rfl, (by first | exact Below.refl _ _ | exact alloc_below _ _)⟩
  · have q1 : (x == 0) = false := by simpa using h
    rw [q1]
    go_enter Try.func54, Try.ntmps54
    go_wp2
    go_ret
    exact ⟨rfl, (by first | exact Below.refl _ _ | exact alloc_below _ _)⟩
set_option maxRecDepth 20000 in
set_option maxHeartbeats 1600000 in
theorem share_Join_bad (p : Int) (a : Option Addr) (c : Nat) (pts : List (Int × Int)) (w : World) {L : Nat} (h : RowP w a c pts) (eL : pts.length = L) (hl : L ≤ 9223372036854775807) (hw : wrongE p pts ≠ 0) :
    Calls Try.prog 29 #[.int .i64 p, .slice a L c] w fun e w' => (∃ t, t ≠ 0 ∧ e = .returned (.tuple #[.int .i64 0, .int .i64 t])) ∧ Below w.heap.size w w' := by
  have HT := Lib.hid (poly_Through_bad p a c pts w h eL hl hw)
  clear h eL hw
  go_enter Try.func29, Try.ntmps29
  go_wp2_with fail
  refine HT.out.mono ?_
  rintro e w1 ⟨⟨t, ht, rfl⟩, hb1⟩
  have H0 := Lib.hid ht
  have q1 : (t == 0) = false := by simpa using ht
  have q2 : (t != 0) = true := by simpa using ht
  clear ht
  go_wp2
  go_ret2
  exact ⟨⟨t, H0.out, rfl⟩, hb1⟩
set_option maxRecDepth 20000 in
set_option maxHeartbeats 1600000 in
theorem share_Join (p : Int) (a : Option Addr) (c : Nat) (pts : List (Int × Int)) (w : World) {L : Nat} (h : RowP w a c pts) (eL : pts.length = L) (hw : wrongE p pts = 0) (hz : ∀ v ∈ pts, v.1 ≠ 0) :
    Calls Try.prog 29 #[.int .i64 p, .slice a L c] w fun e w' => (∃ A, e = .returned (.tuple #[.int .i64 (valL p A 0), .int .i64 0]) ∧ TPost p pts A) ∧ Below w.heap.size w w' := by
  obtain ⟨hpr, hlen, _, _⟩ := wrong_good hw
  have hp := primeE_zero hpr
  have HT := Lib.hid (poly_Through p a c pts w h eL hw)
  have HC := Lib.hid fun w' (h : RowP w' a c pts) => contains_points 54 #[] (enters_of Try.func54 (by kernel_rfl) rfl) (fun v => v.1 == 0) a c pts w' h (by omega) (fun W x _ _ => share_zero x.1 x.2 W)
  rw [show pts.any (fun v => v.1 == 0) = false by rw [List.any_eq_false]; intro v hv; simpa using hz v hv, eL] at HC
  have HV := Lib.hid fun (A : List Int) aa ca w' (h : RowL w' aa ca A) (hl : A.length ≤ 13) (hr : ∀ y ∈ A, 0 ≤ y ∧ y < p) => poly_Value p 0 aa ca A w' (by omega) hp.2.1 (by omega) (by omega) h (by omega) hr
  have HR := Lib.hid h
  have HLen := Lib.hid hlen
  clear h eL hw hz hpr hlen hp
  go_enter Try.func29, Try.ntmps29
  go_wp2_with fail
  refine HT.out.mono ?_
  rintro e w1 ⟨⟨aa, ca, A, rfl, ha, hpost⟩, hb1⟩
  have HPo := Lib.hid hpost
  have HVA := Lib.hid fun w' h => HV.out A aa ca w' h (by have := hpost.an; have := HLen.out; omega) hpost.ar
  obtain ⟨nA, hnA⟩ : ∃ n, A.length = n := ⟨_, rfl⟩
  rw [hnA] at HVA ⊢
  have HA := Lib.hid ha
  clear hpost hnA ha
  go_wp2_with fail
  refine (HC.out _ (HR.out.below hb1 (Nat.le_refl _))).mono ?_
  rintro e w2 ⟨rfl, hb2⟩
  go_wp2_with fail
  refine (HVA.out _ (HA.out.below hb2 (Nat.le_refl _))).mono ?_
  rintro e w3 ⟨rfl, hb3⟩
  go_wp2
  go_ret2
  exact ⟨⟨A, rfl, HPo.out⟩, below_two (below_two hb1 hb2) hb3⟩
end Go.Proofs.Ytfgmnlphejpcaaa

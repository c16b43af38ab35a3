/- RatchetAny. -/
import Derived.Test.YtpikjahgnnejmaaWRatP
import Derived.Test.YtpikjahgnnejmaaWRatR
import Derived.BigQuiet
namespace Go.Proofs.Ytpikjahgnnejmaa
open Go.RowKit Go.Maps
set_option linter.unusedVariables false
set_option linter.unusedSimpArgs false
/-- numbers of a kind behind an address -/
structure RowK (k : IntKind) (W : World) (a : Option Addr) (xs : List Int) : Prop where
  nil : a = none → xs = []
  cells : ∀ ad, a = some ad → ∀ (i : Nat) (x : Int), xs[i]? = some x → W.cell? (ad.add i) = some (.int k x)
theorem RowK.below {k : IntKind} {W W' : World} {a : Option Addr} {xs : List Int} (h : RowK k W a xs) {B : Nat} (hb : Below B W W') (hB : W.heap.size ≤ B) : RowK k W' a xs :=
  ⟨h.nil, fun ad e i x hx => by
    have k0 := h.cells ad e i x hx
    exact (hb.cell (p := ad.add i) (Nat.lt_of_lt_of_le (World.block_lt_of_cell? W _ k0) hB)).trans k0⟩
theorem RowK.shape {k : IntKind} {W : World} {a : Option Addr} {xs : List Int} (h : RowK k W a xs) (hne : 0 < xs.length) : ∃ b o, a = some ⟨b, o, none⟩ ∧ ∀ (i : Nat) (x : Int), xs[i]? = some x → W.cell? ⟨b, o + i, none⟩ = some (.int k x) := by
  rcases a with _ | ⟨b, o, s⟩
  · have := h.nil rfl; subst this; simp at hne
  · have k0 := h.cells _ rfl 0 xs[0] (List.getElem?_eq_getElem hne)
    have hs : s = none := by
      cases s with
      | none => rfl
      | some y =>
        simp [World.cell?, Addr.add] at k0
        split at k0 <;> simp at k0
    subst hs
    refine ⟨b, o, rfl, fun i x hx => ?_⟩
    have k1 := h.cells _ rfl i x hx
    rw [addr_lit] at k1
    exact k1
theorem RowK.of {k : IntKind} {W : World} {a : Option Addr} {len cap : Nat} {zs : List Int} (h : IsRow k W a len cap zs) : ∃ xs : List Int, xs.length = len ∧ RowK k W a xs ∧ ∀ x ∈ xs, (Lit.int k x).wf = true := by
  rcases h with ⟨rfl, rfl, rfl, rfl⟩ | ⟨ad, rfl, hl, hm, hz, hc, hw⟩
  · exact ⟨[], rfl, ⟨fun _ => rfl, (fun ad e => by cases e)⟩, fun x hx => by simp at hx⟩
  · refine ⟨zs.take len, by simp; omega, ⟨fun e => (by cases e), fun ad' e j u hu => ?_⟩, fun x hx => hw x (List.mem_of_mem_take hx)⟩
    cases e
    have hj : j < len := by
      have := (List.getElem?_eq_some_iff.1 hu).1
      simp at this; omega
    have e1 := hc j (by omega)
    rw [e1]
    rw [List.getElem?_take, if_pos hj] at hu
    rw [List.getD_eq_getElem?_getD, hu]
    rfl
theorem sends_snoc {l : List Int} {i : Nat} {x : Int} (h : l[i]? = some x) : sendsL (l.take (i + 1)) = sendsL (l.take i) ++ [⟨1, 0, x⟩] := by
  rw [List.take_add_one, h]
  simp [sendsL]
theorem post_info : (Try.prog.info? 60).map (fun i => (i.zero, i.size, i.bytes)) = some (some (.agg #[.int .i64 0, .int .i64 0, .int .i64 0]), 3, 24) := by kernel_rfl
theorem cell_three (w : World) (x y z : Value) (t : TypeId) (b : Nat) (hb : b = w.heap.size) : ∀ (j : Nat) (u : Value), [x, y, z][j]? = some u → (w.alloc (.cells #[x, y, z] t)).cell? ((⟨b, 0, none⟩ : Addr).add j) = some u := by
  subst hb
  intro j u h
  have hn := World.alloc_heap_new w (.cells #[x, y, z] t)
  rw [addr_lit]
  simp only [World.cell?, Nat.zero_add]
  rw [hn]
  match j, h with
  | 0, h => simpa using h
  | 1, h => simpa using h
  | 2, h => simpa using h
theorem take_one {tk lf : List Nat} {At J : Nat} (h : (tk ++ lf).Nodup) (hb : ∀ m ∈ tk ++ lf, m < J) (hA : At < lf.length) : ((tk ++ [lf.getD At 0]) ++ (lf.take At ++ lf.drop (At + 1))).Nodup ∧ ∀ m ∈ (tk ++ [lf.getD At 0]) ++ (lf.take At ++ lf.drop (At + 1)), m < J := by
  have e : lf = lf.take At ++ lf.getD At 0 :: lf.drop (At + 1) := by
    have h1 : lf.drop At = lf.getD At 0 :: lf.drop (At + 1) := by
      rw [List.drop_eq_getElem_cons hA, List.getD_eq_getElem?_getD, List.getElem?_eq_getElem hA]; rfl
    rw [← h1, List.take_append_drop]
  have hp : ((tk ++ [lf.getD At 0]) ++ (lf.take At ++ lf.drop (At + 1))).Perm (tk ++ lf) := by
    conv => rhs; rw [e]
    rw [List.append_assoc, List.singleton_append]
    exact List.Perm.append_left tk List.perm_middle.symm
  exact ⟨hp.nodup_iff.2 h, fun m hm => hb m (hp.mem_iff.1 hm)⟩
theorem takes_snoc (tk : List Nat) (y : Nat) : takesL (tk ++ [y]) = takesL tk ++ [⟨2, (y : Int), 0⟩] := by simp [takesL]
theorem row_take {W : World} {base g c : Nat} {lf : List Nat} (h : W.ownsRow base 3 1 (.slice (some ⟨g, 0, none⟩) lf.length c) lf.length (natV lf)) (n : Nat) : ∀ (j : Nat) (u : Value), (natV (lf.take n))[j]? = some u → W.cell? ((⟨g, 0, none⟩ : Addr).add j) = some u := by
  intro j u hu
  have h1 : (natV lf)[j]? = some u := by
    unfold natV at hu ⊢
    rw [List.getElem?_map, List.getElem?_take] at hu
    split at hu
    · rw [List.getElem?_map]; exact hu
    · simp at hu
  have hj : j < lf.length := by have := (List.getElem?_eq_some_iff.1 h1).1; simpa [natV] using this
  rw [addr_lit, Nat.zero_add, h.cellAt j (by omega), h1]
theorem row_drop {W : World} {base g c : Nat} {lf : List Nat} (h : W.ownsRow base 3 1 (.slice (some ⟨g, 0, none⟩) lf.length c) lf.length (natV lf)) (n : Nat) : ∀ (j : Nat) (u : Value), (natV (lf.drop n))[j]? = some u → W.cell? ((⟨g, n, none⟩ : Addr).add j) = some u := by
  intro j u hu
  have h1 : (natV lf)[n + j]? = some u := by
    unfold natV at hu ⊢
    rw [List.getElem?_map, List.getElem?_drop] at hu
    rw [List.getElem?_map]; exact hu
  have hj : n + j < lf.length := by have := (List.getElem?_eq_some_iff.1 h1).1; simpa [natV] using this
  rw [addr_lit, h.cellAt (n + j) (by omega), h1]
theorem natV_len (l : List Nat) : (natV l).length = l.length := by simp [natV]
theorem natV_one (l : List Nat) : ∀ u ∈ natV l, u.oneCell' = true := by
  intro u hu
  obtain ⟨n, _, rfl⟩ := List.mem_map.1 hu
  rfl
theorem row_c {W : World} {base g c : Nat} {lf : List Nat} (h : W.ownsRow base 3 1 (.slice (some ⟨g, 0, none⟩) lf.length c) lf.length (natV lf)) : lf.length ≤ c ∧ c ≤ maxLen := by
  rcases h.2 with ⟨e, _⟩ | ⟨g', c', cur, e, _, _, q1, q2, _⟩
  · cases e
  · injection e with e1 e2 e3
    subst e3
    exact ⟨q1, q2⟩
theorem RA.lefC {B W : World} {zs : List Po} {tk lf : List Nat} {v7 v12 : Value} {g c : Nat} (h : RA B zs tk lf v7 v12 (.slice (some ⟨g, 0, none⟩) lf.length c) W) {M : Nat} (hM : M < lf.length) : W.cell? ⟨g, M, none⟩ = some (.int .i64 ((lf.getD M 0 : Nat) : Int)) := by
  rw [h.lef.cellAt M (by omega)]
  unfold natV
  simp [hM]
theorem outs_cells {W : World} {base n : Nat} {v : Value} {l : List (Int × Int)} (h : W.ownsRow base 62 2 v n (flatT l)) : ∃ a c, v = .slice a n c ∧ ∀ i p, l[i]? = some p → ∃ g, a = some ⟨g, 0, none⟩ ∧ W.cell? ⟨g, i * 2, none⟩ = some (.int .i64 p.1) ∧ W.cell? ⟨g, i * 2 + 1, none⟩ = some (.int .i64 p.2) := by
  have hlen : ∀ l : List (Int × Int), (flatT l).length = l.length * 2 := by
    intro l
    induction l with
    | nil => rfl
    | cons q t ih => show (flatT t).length + 1 + 1 = _; rw [ih, List.length_cons]; omega
  have key : ∀ (l : List (Int × Int)) (i : Nat) (p : Int × Int), l[i]? = some p → (flatT l)[i * 2]? = some (.int .i64 p.1) ∧ (flatT l)[i * 2 + 1]? = some (.int .i64 p.2) := by
    intro l
    induction l with
    | nil => intro i p h; simp at h
    | cons q t ih =>
      intro i p h
      show (.int .i64 q.1 :: .int .i64 q.2 :: flatT t)[i * 2]? = _ ∧ (.int .i64 q.1 :: .int .i64 q.2 :: flatT t)[i * 2 + 1]? = _
      cases i with
      | zero => simp at h; subst h; exact ⟨rfl, rfl⟩
      | succ i =>
        simp only [List.getElem?_cons_succ] at h
        have := ih i p h
        rw [show (i + 1) * 2 = i * 2 + 1 + 1 by omega]
        simpa only [List.getElem?_cons_succ] using this
  have hn : n = l.length := by have := h.1; rw [hlen] at this; omega
  rcases h.2 with ⟨rfl, h0⟩ | ⟨g, c', cur, rfl, _⟩
  · exact ⟨none, 0, by rw [h0], fun i p hp => by have := (List.getElem?_eq_some_iff.1 hp).1; omega⟩
  · refine ⟨_, c', rfl, fun i p hp => ⟨g, rfl, ?_⟩⟩
    have hi := (List.getElem?_eq_some_iff.1 hp).1
    obtain ⟨q1, q2⟩ := key _ i _ hp
    exact ⟨by rw [h.cellAt (i * 2) (by omega), q1], by rw [h.cellAt (i * 2 + 1) (by omega), q2]⟩
set_option maxRecDepth 20000 in
set_option maxHeartbeats 6400000 in
theorem WRatchetAny (a0 : Int) (a1 : Option Addr) (len1 cap1 : Nat) (z1 : List Int) (a2 : Option Addr) (len2 cap2 : Nat) (z2 : List Int) (w : World) (w0 : (Lit.int .i64 a0).wf = true) (w1 : IsRow .i64 w a1 len1 cap1 z1) (s1 : len1 * 8 ≤ 140737488355328) (w2 : IsRow .u8 w a2 len2 cap2 z2) (s2 : len2 * 1 ≤ 140737488355328) :
    Calls Try.prog 12 #[.int .i64 a0, .slice a1 len1 cap1, .slice a2 len2 cap2] w fun e w' => e = .returned (.bool true) ∧ Below w.heap.size w w' := by
  have r0 := wf64 w0
  obtain ⟨xs, e1, h1, f1⟩ := RowK.of w1
  obtain ⟨ys, e2, h2, f2⟩ := RowK.of w2
  clear w0 w1 w2
  have HR1 := Lib.hid h1
  have HR2 := Lib.hid h2
  have HF1 := Lib.hid f1
  have HF2 := Lib.hid f2
  have E1 := Lib.hid e1
  have E2 := Lib.hid e2
  have wr1 : IntKind.i64.wrap ((2 : Int) * (len1 : Int)) = (2 : Int) * (len1 : Int) := IntWalk.i64_in _ (by omega)
  clear h1 h2 f1 f2 e1 e2
  by_cases hb : a0 < 0 ∨ 65535 < a0 ∨ 100 < 2 * len1
  · have hb2 : ((decide (a0 < 0) || decide (65535 < a0)) || decide ((100 : Int) < 2 * (len1 : Int))) = true := by
      simp only [Bool.or_eq_true, decide_eq_true_eq]; omega
    clear hb2
    have ret : ∀ {R : Prop}, R → R := fun h => h
    by_cases p1 : a0 < 0
    · go_enter Try.func12, Try.ntmps12
      go_wp2
      refine bodyPost_ret (v := .bool true) ?_ rfl ?_
      · go_simp; first | rfl | kernel_rfl
      · exact ⟨rfl, Below.refl _ _⟩
    · by_cases p2 : 65535 < a0
      · go_enter Try.func12, Try.ntmps12
        go_wp2
        refine bodyPost_ret (v := .bool true) ?_ rfl ?_
        · go_simp; first | rfl | kernel_rfl
        · exact ⟨rfl, Below.refl _ _⟩
      · have p3 : (100 : Int) < 2 * (len1 : Int) := by omega
        go_enter Try.func12, Try.ntmps12
        go_wp2
        refine bodyPost_ret (v := .bool true) ?_ rfl ?_
        · go_simp; first | rfl | kernel_rfl
        · exact ⟨rfl, Below.refl _ _⟩
  · obtain ⟨k0, rfl⟩ := Int.eq_ofNat_of_zero_le (show 0 ≤ a0 by omega)
    have hk : k0 < 65536 := by omega
    have hn : 2 * len1 ≤ 100 := by omega
    have i1 : ¬ (k0 : Int) < 0 := by omega
    have i2 : ¬ (65535 : Int) < (k0 : Int) := by omega
    have i3 : ¬ (100 : Int) < 2 * (len1 : Int) := by omega
    clear hb r0
    obtain ⟨i0, hi, hz0, hz1, hz2⟩ := info_parts post_info
    have hu : Try.prog.underlying 54 = some (.slice 60) := by kernel_rfl
    obtain ⟨j0, ji, jz0, jz1, jz2⟩ := info_parts intR_info
    have ju : Try.prog.underlying 58 = some (.slice 3) := by kernel_rfl
    have hR0 := RA.init w
    go_enter Try.func12, Try.ntmps12
    go_wp2_with fail
    go_loopw [7, 33] (fun v7 ix wr => ∃ (I : Nat), ix = .int .i64 (I : Int) ∧ I ≤ len1 ∧ Hid (∀ x ∈ xs.take I, 0 ≤ x ∧ x < 65536) ∧ RA w (sendsL (xs.take I)) [] [] v7 (.slice none 0 0) (.slice none 0 0) wr) (fun _ ix _ => len1 - (intOf ix).toNat)
    case atStart => exact ⟨0, rfl, Nat.zero_le _, Lib.hid (fun x h => by simp at h), hR0⟩
    case round =>
      obtain ⟨I, rfl, hI, HX, hRA⟩ := hrel
      by_cases hlt : I < len1
      · obtain ⟨x, hx⟩ : ∃ x, xs[I]? = some x := ⟨_, List.getElem?_eq_getElem (by rw [E1.out]; exact hlt)⟩
        obtain ⟨b, o, rfl, hc⟩ := (HR1.out.below hRA.bel (Nat.le_refl _)).shape (by rw [E1.out]; omega)
        have k1 := hc I x hx
        have q1 := wf64 (HF1.out x (List.mem_of_getElem? hx))
        have HN := Lib.hid (sends_snoc hx)
        have HT : Hid (xs.take (I + 1) = xs.take I ++ [x]) := Lib.hid (by rw [List.take_add_one, hx]; rfl)
        have HRA := Lib.hid hRA
        have hbel := hRA.bel
        clear hc hx hRA
        by_cases hbad : x < 0 ∨ 65535 < x
        · clear HRA
          by_cases p1 : x < 0
          · go_wp2
            refine bodyPost_ret (v := .bool true) ?_ rfl ?_
            · go_simp; first | rfl | kernel_rfl
            · exact ⟨rfl, hbel⟩
          · have p2 : 65535 < x := by omega
            go_wp2
            refine bodyPost_ret (v := .bool true) ?_ rfl ?_
            · go_simp; first | rfl | kernel_rfl
            · exact ⟨rfl, hbel⟩
        · have q2 : ¬ x < 0 := by omega
          have q3 : ¬ 65535 < x := by omega
          have hsz := hbel.size
          clear hbad hbel
          go_wp2_with (at_builtin; refine stopHere ?_)
          refine ⟨?_, trivial⟩
          refine wpList_append_own_at _ rfl _ _ 54 rfl w.heap.size 60 i0 (.agg #[.int .i64 0, .int .i64 0, .int .i64 0]) 3 24 hu hi hz0 hz1 hz2 rfl (by decide) _ _ _ rfl (HRA.out.scr.alloc _) ⟨_, 0, none⟩ 1 1 [.int .i64 1, .int .i64 0, .int .i64 x] rfl rfl (cell_three _ _ _ _ _ _ (by first | rfl | assumption | simp)) (by simp [Value.oneCell']) (by simp [sendsL]; unfold maxLen; omega) (by simp [sendsL]; omega) (by simp; omega) ?_
          intro v3 w3 hown3 hgr3 hni3 hat3
          have HRA3 := Lib.hid (HRA.out.pushS (p := ⟨1, 0, x⟩) hown3 hgr3)
          clear hown3 hgr3 hni3 hat3
          go_wp2_with fail
          go_roundw
          case rel => exact ⟨I + 1, by go_num, by omega, Lib.hid (by rw [HT.out]; intro y hy; rcases List.mem_append.1 hy with h3 | h3; exact HX.out y h3; rw [List.mem_singleton.1 h3]; omega), by rw [HN.out]; exact HRA3.out⟩
          case measure => simp [intOf]; omega
      · have e0 : I = len1 := by omega
        subst e0
        have HXs : Hid (∀ x ∈ xs, 0 ≤ x ∧ x < 65536) := Lib.hid (by have := HX.out; rw [List.take_of_length_le (by rw [E1.out]; exact Nat.le_refl _)] at this; exact this)
        rw [List.take_of_length_le (by rw [E1.out]; exact Nat.le_refl _)] at hRA
        clear HX
        go_wp2_with fail
        go_loopw [10, 11] (fun v10 ix wr => ∃ (J : Nat), ix = .int .i64 (J : Int) ∧ J ≤ I ∧ RA w (sendsL xs) [] (List.range J) u7 (.slice none 0 0) v10 wr) (fun _ ix _ => I - (intOf ix).toNat)
        case atStart => exact ⟨0, rfl, Nat.zero_le _, hRA⟩
        case round =>
          obtain ⟨J, rfl, hJ, hRA⟩ := hrel
          by_cases hlt : J < I
          · have HRA := Lib.hid hRA
            have hsz := hRA.bel.size
            clear hRA
            go_wp2_with (at_builtin; refine stopHere ?_)
            refine ⟨?_, trivial⟩
            refine wpList_append_own_at _ rfl _ _ 58 rfl w.heap.size 3 j0 (.int .i64 0) 1 8 ju ji jz0 jz1 jz2 rfl (by decide) _ _ _ rfl (HRA.out.lef.alloc _) ⟨_, 0, none⟩ 1 1 [.int .i64 ((J : Nat) : Int)] rfl rfl (cell_oneB _ _ _ _ (by first | rfl | assumption | simp)) (by simp [Value.oneCell']) (by simp; unfold maxLen; omega) (by simp; omega) (by simp; omega) ?_
            intro v3 w3 hown3 hgr3 hni3 hat3
            have HRA3 := Lib.hid (HRA.out.pushL hown3 hgr3 hat3)
            clear hown3 hgr3 hni3 hat3
            go_wp2_with fail
            go_roundw
            case rel => exact ⟨J + 1, by go_num, by omega, by rw [List.range_succ]; exact HRA3.out⟩
            case measure => simp [intOf]; omega
          · have e0 : J = I := by omega
            subst e0
            clear hlt hI hJ
            go_wp2_with fail
            have hRJ := hRA
            clear hRA
            go_loopw [7, 10, 12, 13] (fun v7 v10 v12 ix wr => ∃ (k : Nat) (tk lf : List Nat), ix = .int .i64 (k : Int) ∧ k + lf.length = J ∧ tk.length = k ∧ Hid ((tk ++ lf).Nodup) ∧ Hid (∀ m ∈ tk ++ lf, m < J) ∧ RA w (sendsL xs ++ takesL tk) tk lf v7 v12 v10 wr) (fun _ _ _ ix _ => J - (intOf ix).toNat)
            case atStart => exact ⟨0, [], List.range J, rfl, by simp, rfl, Lib.hid (by simpa using List.nodup_range), Lib.hid (fun m hm => by simpa using hm), by rw [show takesL [] = [] from rfl, List.append_nil]; exact hRJ⟩
            case round =>
              obtain ⟨k, tk, lf, rfl, hkl, htk, HND, HBD, hRA⟩ := hrel
              have hzl : (sendsL xs ++ takesL tk).length = J + k := by simp [sendsL, takesL, htk, E1.out]
              obtain ⟨la, lc, rfl, hlc⟩ := own_shape1 hRA.lef
              have hsz := hRA.bel.size
              by_cases hlf : 0 < lf.length
              · obtain ⟨g, rfl, h00⟩ := hlc 0 hlf
                clear hlc h00
                obtain ⟨hLc, hcm⟩ := row_c hRA.lef
                unfold maxLen at hcm
                have p1 : (0 : Int) < (lf.length : Int) := by omega
                by_cases hk2 : k < len2
                · obtain ⟨y, hy⟩ : ∃ y, ys[k]? = some y := ⟨_, List.getElem?_eq_getElem (by rw [E2.out]; exact hk2)⟩
                  obtain ⟨b, o, rfl, hc⟩ := (HR2.out.below hRA.bel (Nat.le_refl _)).shape (by rw [E2.out]; omega)
                  have k1 := hc k y hy
                  have q1 := wf8 (HF2.out y (List.mem_of_getElem? hy))
                  obtain ⟨N, rfl⟩ := Int.eq_ofNat_of_zero_le q1.1
                  clear hc hy
                  have HRA := Lib.hid hRA
                  clear hRA
                  obtain ⟨At, hAe⟩ : ∃ At, At = N % lf.length := ⟨_, rfl⟩
                  have hAt : At < lf.length := by rw [hAe]; exact Nat.mod_lt _ hlf
                  have k2 : (k : Int) < (len2 : Int) := by omega
                  have htm : (N : Int) % (lf.length : Int) = (At : Int) := by rw [hAe]; rfl
                  clear hAe
                  have hnz : ((lf.length : Int) == 0) = false := beq_eq_false_iff_ne.2 (by omega)
                  have hY := HRA.out.lefC hAt
                  obtain ⟨Y, hYe⟩ : ∃ Y, Y = lf.getD At 0 := ⟨_, rfl⟩
                  have hone := take_one HND.out HBD.out hAt
                  rw [← hYe] at hY hone
                  obtain ⟨A1, hA1⟩ : ∃ A1 : Nat, A1 = At + 1 := ⟨_, rfl⟩
                  rw [← hA1] at hone
                  have HONE := Lib.hid hone
                  have HYe := Lib.hid hYe
                  clear hone hYe
                  go_wp2_with (at_builtin; refine stopHere ?_)
                  refine ⟨?_, trivial⟩
                  refine wpList_append_own_at _ rfl _ _ 54 rfl w.heap.size 60 i0 (.agg #[.int .i64 0, .int .i64 0, .int .i64 0]) 3 24 hu hi hz0 hz1 hz2 rfl (by decide) _ _ _ rfl (HRA.out.scr.alloc _) ⟨_, 0, none⟩ 1 1 [.int .i64 2, .int .i64 (Y : Int), .int .i64 0] rfl rfl (cell_three _ _ _ _ _ _ (by first | rfl | assumption | simp)) (by simp [Value.oneCell']) (by rw [hzl]; unfold maxLen; omega) (by rw [hzl]; omega) (by simp; omega) ?_
                  intro v3 w3 hown3 hgr3 hni3 hat3
                  have HRA3 := Lib.hid (HRA.out.pushS (p := ⟨2, (Y : Int), 0⟩) hown3 hgr3)
                  clear hown3 hgr3 hni3 hat3 hY
                  have hY := HRA3.out.lefC hAt
                  rw [← HYe.out] at hY
                  have hsz3 := HRA3.out.bel.size
                  go_wp2_with (at_builtin; refine stopHere ?_)
                  refine ⟨?_, trivial⟩
                  refine wpList_append_own_at _ rfl _ _ 58 rfl w.heap.size 3 j0 (.int .i64 0) 1 8 ju ji jz0 jz1 jz2 rfl (by decide) _ _ _ rfl (HRA3.out.tok.alloc _) ⟨_, 0, none⟩ 1 1 [.int .i64 ((Y : Nat) : Int)] rfl rfl (cell_oneB _ _ _ _ (by first | rfl | assumption | simp)) (by simp [Value.oneCell']) (by unfold maxLen; omega) (by omega) (by simp; omega) ?_
                  intro v4 B hown3 hgr3 hni3 hat3
                  have HRA4 := Lib.hid (HRA3.out.pushT hown3 hgr3 hat3)
                  clear hown3 hgr3 hni3 hat3 hY HRA3 HRA
                  have hszB := HRA4.out.bel.size
                  go_wp2_with fail
                  have hAc : At ≤ lc := by omega
                  have hw1 : IntKind.i64.wrap ((At : Int) + 1) = (A1 : Int) := by rw [hA1]; exact IntWalk.i64_in _ (by omega)
                  have hA1l : (A1 : Int) ≤ (lf.length : Int) := by omega
                  obtain ⟨ad9, hif, h9⟩ : ∃ ad9 : Addr, (if lc = A1 then some (⟨g, 0, none⟩ : Addr) else some ⟨g, A1, none⟩) = some ad9 ∧ (ad9 = ⟨g, A1, none⟩ ∨ lf.length ≤ A1) := by
                    by_cases h : lc = A1
                    · exact ⟨_, if_pos h, .inr (by omega)⟩
                    · exact ⟨_, if_neg h, .inl rfl⟩
                  have hdr : ∀ W : World, W.ownsRow w.heap.size 3 1 (.slice (some ⟨g, 0, none⟩) lf.length lc) lf.length (natV lf) → ∀ (j : Nat) (u : Value), (natV (lf.drop A1))[j]? = some u → W.cell? (ad9.add j) = some u := by
                    intro W hW j u hu
                    rcases h9 with e | e
                    · rw [e]; exact row_drop hW A1 j u hu
                    · rw [List.drop_eq_nil_of_le e] at hu; simp [natV] at hu
                  have HA1 := Lib.hid hA1
                  have Hdr := Lib.hid hdr
                  clear hA1 hdr h9
                  refine wp_region_D (S := (fun W : World => Below B.heap.size B W)) (fun _ => true) (by kernel_rfl) (Below.refl _ _).drew (fun hHeld => ?_)
                  simp only [List.size_toArray, List.length_cons, List.length_nil, Nat.reduceAdd, Array.replicate_succ, Array.replicate_zero, List.push_toArray, List.append_toArray, List.nil_append, List.cons_append]
                  refine WD_free (i := 1) (oi := _) (v := ?_) rfl (by kernel_rfl) (fun _ _ _ h => h) (Or.inl ⟨by rfl, ?_⟩) ?_
                  rotate_left
                  · (intro W hS; (try dsimp only at hS); clear hS; go_simp; with_reducible rfl)
                  try simp only [Act.put, List.getElem_toArray, List.getElem_cons_succ, List.getElem_cons_zero, List.setIfInBounds_toArray, List.set_cons_zero, List.set_cons_succ]
                  refine WD_free (i := 2) (oi := _) (v := ?_) rfl (by kernel_rfl) (fun _ _ _ h => h) (Or.inl ⟨by rfl, ?_⟩) ?_
                  rotate_left
                  · (intro W hS; (try dsimp only at hS); clear hS; go_simp; with_reducible rfl)
                  try simp only [Act.put, List.getElem_toArray, List.getElem_cons_succ, List.getElem_cons_zero, List.setIfInBounds_toArray, List.set_cons_zero, List.set_cons_succ]
                  refine WD_free (i := 3) (oi := _) (v := ?_) rfl (by kernel_rfl) (fun _ _ _ h => h) (Or.inl ⟨by rfl, ?_⟩) ?_
                  rotate_left
                  · (intro W hS; (try dsimp only at hS); clear hS; go_simp; with_reducible rfl)
                  try simp only [Act.put, List.getElem_toArray, List.getElem_cons_succ, List.getElem_cons_zero, List.setIfInBounds_toArray, List.set_cons_zero, List.set_cons_succ]
                  refine WD_free (i := 5) (oi := _) (v := ?_) rfl (by kernel_rfl) (fun _ _ _ h => h) (Or.inl ⟨by rfl, ?_⟩) ?_
                  rotate_left
                  · (intro W hS; (try dsimp only at hS); clear hS; go_simp; with_reducible rfl)
                  try simp only [Act.put, List.getElem_toArray, List.getElem_cons_succ, List.getElem_cons_zero, List.setIfInBounds_toArray, List.set_cons_zero, List.set_cons_succ]
                  refine WD_free (i := 6) (oi := _) (v := ?_) rfl (by kernel_rfl) (fun _ _ _ h => h) (Or.inl ⟨by rfl, ?_⟩) ?_
                  rotate_left
                  · (intro W hS; (try dsimp only at hS); clear hS; go_simp; with_reducible rfl)
                  try simp only [Act.put, List.getElem_toArray, List.getElem_cons_succ, List.getElem_cons_zero, List.setIfInBounds_toArray, List.set_cons_zero, List.set_cons_succ]
                  refine WD_free (i := 7) (oi := _) (v := ?_) rfl (by kernel_rfl) (fun _ _ _ h => h) (Or.inl ⟨by rfl, ?_⟩) ?_
                  rotate_left
                  · (intro W hS; (try dsimp only at hS); clear hS; go_simp; with_reducible rfl)
                  try simp only [Act.put, List.getElem_toArray, List.getElem_cons_succ, List.getElem_cons_zero, List.setIfInBounds_toArray, List.set_cons_zero, List.set_cons_succ]
                  refine WD_free (i := 8) (oi := _) (v := ?_) rfl (by kernel_rfl) (fun _ _ _ h => h) (Or.inl ⟨by rfl, ?_⟩) ?_
                  rotate_left
                  · (intro W hS; (try dsimp only at hS); clear hS; go_simp; with_reducible rfl)
                  try simp only [Act.put, List.getElem_toArray, List.getElem_cons_succ, List.getElem_cons_zero, List.setIfInBounds_toArray, List.set_cons_zero, List.set_cons_succ]
                  refine WD_step (i := 0) (o := _) rfl (by kernel_rfl) (fun K hK => ?_)
                  go_simp
                  have b1 : Below B.heap.size B (B.alloc (.cells #[] 3)).drew := ((Below.refl _ _).alloc (Nat.le_refl _) _).drew
                  replace hHeld := b1
                  have ho0 : (B.alloc (.cells #[] 3)).drew.ownsRow B.heap.size 3 1 (.slice (some ⟨B.heap.size, 0, none⟩) 0 0) 0 [] := World.ownsRow.drew (World.ownsRow_made B #[] 0 (Nat.le_refl _) (by decide) rfl)
                  refine hK.out _ _ (fun _ _ => hHeld) ?_
                  clear hK K
                  try simp only [Act.put, List.getElem_toArray, List.getElem_cons_succ, List.getElem_cons_zero, List.setIfInBounds_toArray, List.set_cons_zero, List.set_cons_succ]
                  refine WD_step (i := 4) (o := _) rfl (by kernel_rfl) (fun K hK => ?_)
                  refine step_app_own rfl (.tmp 91) (.tmp 94) 58 rfl B.heap.size 3 j0 (.int .i64 0) 1 8 ju ji jz0 jz1 jz2 rfl (by decide) _ _ _ rfl ho0 _ _ _ (natV (lf.take At)) rfl (by rw [natV_len, List.length_take, Nat.min_eq_left (Nat.le_of_lt hAt), Nat.mul_one]) (row_take (HRA4.out.below b1).lef At) (natV_one _) (by unfold maxLen; omega) (by omega) (by simp) ?_
                  intro v1 w3 ho1 hg1
                  have b2 : Below B.heap.size B w3 := b1.grown hg1 (by simp) (fun j hj => (ho0.lt j hj).1)
                  replace hHeld := b2
                  refine hK.out _ _ (fun _ _ => hHeld) ?_
                  clear hK K
                  try simp only [Act.put, List.getElem_toArray, List.getElem_cons_succ, List.getElem_cons_zero, List.setIfInBounds_toArray, List.set_cons_zero, List.set_cons_succ]
                  refine WD_step (i := 9) (o := _) rfl (by kernel_rfl) (fun K hK => ?_)
                  refine step_app_own rfl (.tmp 95) (.tmp 99) 58 rfl B.heap.size 3 j0 (.int .i64 0) 1 8 ju ji jz0 jz1 jz2 rfl (by decide) _ _ _ rfl ho1 _ _ _ (natV (lf.drop A1)) rfl (by rw [natV_len, List.length_drop]; omega) (Hdr.out _ (HRA4.out.below b2).lef) (natV_one _) (by unfold maxLen; omega) (by omega) hHeld.size ?_
                  intro v2 w4 ho2 hg2
                  have b3 : Below B.heap.size B w4 := b2.grown hg2 hHeld.size (fun j hj => (ho1.lt j hj).1)
                  replace hHeld := b3
                  refine hK.out _ _ (fun _ _ => hHeld) ?_
                  clear hK K
                  try simp only [Act.put, List.getElem_toArray, List.getElem_cons_succ, List.getElem_cons_zero, List.setIfInBounds_toArray, List.set_cons_zero, List.set_cons_succ]
                  refine WD_free (i := 10) (oi := _) (v := ?_) rfl (by kernel_rfl) (fun _ _ _ h => h) (Or.inl ⟨by rfl, ?_⟩) ?_
                  rotate_left
                  · (intro W hS; (try dsimp only at hS); clear hS; go_simp; with_reducible rfl)
                  try simp only [Act.put, List.getElem_toArray, List.getElem_cons_succ, List.getElem_cons_zero, List.setIfInBounds_toArray, List.set_cons_zero, List.set_cons_succ]
                  refine WD_done (by kernel_rfl) ?_ _
                  have hlf : (lf.take At ++ lf.drop A1).length + 1 = lf.length := by have := HA1.out; rw [List.length_append, List.length_take, List.length_drop]; omega
                  have HRA5 := Lib.hid (HRA4.out.newL (lf' := lf.take At ++ lf.drop A1) b3 (by
                    have h9 : natV (lf.take At ++ lf.drop A1) = [] ++ natV (lf.take At) ++ natV (lf.drop A1) := by simp [natV]
                    rw [h9]
                    refine cast ?_ ho2
                    have h8 := HA1.out
                    congr 1
                    omega))
                  have HZ : Hid (sendsL xs ++ takesL tk ++ [⟨2, (Y : Int), 0⟩] = sendsL xs ++ takesL (tk ++ [Y])) := Lib.hid (by rw [takes_snoc, List.append_assoc])
                  rw [HZ.out] at HRA5
                  clear ho0 ho1 ho2 hg1 hg2 b1 b2 b3 hHeld HRA4
                  go_wp2_with fail
                  go_roundw
                  case rel => exact ⟨k + 1, tk ++ [Y], lf.take At ++ lf.drop A1, by go_num, by omega, by rw [List.length_append, List.length_singleton]; omega, Lib.hid HONE.out.1, Lib.hid HONE.out.2, HRA5.out⟩
                  case measure => simp [intOf]; omega
                · have HRA := Lib.hid hRA
                  clear hRA
                  have hk3 : ¬ (k : Int) < (len2 : Int) := by omega
                  have hAt : 0 < lf.length := hlf
                  have hY := HRA.out.lefC hAt
                  obtain ⟨Y, hYe⟩ : ∃ Y, Y = lf.getD 0 0 := ⟨_, rfl⟩
                  have hone := take_one HND.out HBD.out hAt
                  rw [← hYe] at hY hone
                  rw [Nat.zero_add] at hone
                  have HONE := Lib.hid hone
                  have HYe := Lib.hid hYe
                  clear hone hYe
                  go_wp2_with (at_builtin; refine stopHere ?_)
                  refine ⟨?_, trivial⟩
                  refine wpList_append_own_at _ rfl _ _ 54 rfl w.heap.size 60 i0 (.agg #[.int .i64 0, .int .i64 0, .int .i64 0]) 3 24 hu hi hz0 hz1 hz2 rfl (by decide) _ _ _ rfl (HRA.out.scr.alloc _) ⟨_, 0, none⟩ 1 1 [.int .i64 2, .int .i64 (Y : Int), .int .i64 0] rfl rfl (cell_three _ _ _ _ _ _ (by first | rfl | assumption | simp)) (by simp [Value.oneCell']) (by rw [hzl]; unfold maxLen; omega) (by rw [hzl]; omega) (by simp; omega) ?_
                  intro v3 w3 hown3 hgr3 hni3 hat3
                  have HRA3 := Lib.hid (HRA.out.pushS (p := ⟨2, (Y : Int), 0⟩) hown3 hgr3)
                  clear hown3 hgr3 hni3 hat3 hY
                  have hY := HRA3.out.lefC hAt
                  rw [← HYe.out] at hY
                  have hsz3 := HRA3.out.bel.size
                  go_wp2_with (at_builtin; refine stopHere ?_)
                  refine ⟨?_, trivial⟩
                  refine wpList_append_own_at _ rfl _ _ 58 rfl w.heap.size 3 j0 (.int .i64 0) 1 8 ju ji jz0 jz1 jz2 rfl (by decide) _ _ _ rfl (HRA3.out.tok.alloc _) ⟨_, 0, none⟩ 1 1 [.int .i64 ((Y : Nat) : Int)] rfl rfl (cell_oneB _ _ _ _ (by first | rfl | assumption | simp)) (by simp [Value.oneCell']) (by unfold maxLen; omega) (by omega) (by simp; omega) ?_
                  intro v4 B hown3 hgr3 hni3 hat3
                  have HRA4 := Lib.hid (HRA3.out.pushT hown3 hgr3 hat3)
                  clear hown3 hgr3 hni3 hat3 hY HRA3 HRA
                  have hszB := HRA4.out.bel.size
                  go_wp2_with fail
                  have hAc : 0 ≤ lc := by omega
                  have hw1 : IntKind.i64.wrap (1 : Int) = 1 := by decide
                  have hA1l : (1 : Int) ≤ (lf.length : Int) := by omega
                  obtain ⟨ad9, hif, h9⟩ : ∃ ad9 : Addr, (if lc = 1 then some (⟨g, 0, none⟩ : Addr) else some ⟨g, 1, none⟩) = some ad9 ∧ (ad9 = ⟨g, 1, none⟩ ∨ lf.length ≤ 1) := by
                    by_cases h : lc = 1
                    · exact ⟨_, if_pos h, .inr (by omega)⟩
                    · exact ⟨_, if_neg h, .inl rfl⟩
                  have hdr : ∀ W : World, W.ownsRow w.heap.size 3 1 (.slice (some ⟨g, 0, none⟩) lf.length lc) lf.length (natV lf) → ∀ (j : Nat) (u : Value), (natV (lf.drop 1))[j]? = some u → W.cell? (ad9.add j) = some u := by
                    intro W hW j u hu
                    rcases h9 with e | e
                    · rw [e]; exact row_drop hW 1 j u hu
                    · rw [List.drop_eq_nil_of_le e] at hu; simp [natV] at hu
                  have Hdr := Lib.hid hdr
                  clear hdr h9
                  refine wp_region_D (S := (fun W : World => Below B.heap.size B W)) (fun _ => true) (by kernel_rfl) (Below.refl _ _).drew (fun hHeld => ?_)
                  simp only [List.size_toArray, List.length_cons, List.length_nil, Nat.reduceAdd, Array.replicate_succ, Array.replicate_zero, List.push_toArray, List.append_toArray, List.nil_append, List.cons_append]
                  refine WD_free (i := 1) (oi := _) (v := ?_) rfl (by kernel_rfl) (fun _ _ _ h => h) (Or.inl ⟨by rfl, ?_⟩) ?_
                  rotate_left
                  · (intro W hS; (try dsimp only at hS); clear hS; go_simp; with_reducible rfl)
                  try simp only [Act.put, List.getElem_toArray, List.getElem_cons_succ, List.getElem_cons_zero, List.setIfInBounds_toArray, List.set_cons_zero, List.set_cons_succ]
                  refine WD_free (i := 2) (oi := _) (v := ?_) rfl (by kernel_rfl) (fun _ _ _ h => h) (Or.inl ⟨by rfl, ?_⟩) ?_
                  rotate_left
                  · (intro W hS; (try dsimp only at hS); clear hS; go_simp; with_reducible rfl)
                  try simp only [Act.put, List.getElem_toArray, List.getElem_cons_succ, List.getElem_cons_zero, List.setIfInBounds_toArray, List.set_cons_zero, List.set_cons_succ]
                  refine WD_free (i := 3) (oi := _) (v := ?_) rfl (by kernel_rfl) (fun _ _ _ h => h) (Or.inl ⟨by rfl, ?_⟩) ?_
                  rotate_left
                  · (intro W hS; (try dsimp only at hS); clear hS; go_simp; with_reducible rfl)
                  try simp only [Act.put, List.getElem_toArray, List.getElem_cons_succ, List.getElem_cons_zero, List.setIfInBounds_toArray, List.set_cons_zero, List.set_cons_succ]
                  refine WD_free (i := 5) (oi := _) (v := ?_) rfl (by kernel_rfl) (fun _ _ _ h => h) (Or.inl ⟨by rfl, ?_⟩) ?_
                  rotate_left
                  · (intro W hS; (try dsimp only at hS); clear hS; go_simp; with_reducible rfl)
                  try simp only [Act.put, List.getElem_toArray, List.getElem_cons_succ, List.getElem_cons_zero, List.setIfInBounds_toArray, List.set_cons_zero, List.set_cons_succ]
                  refine WD_free (i := 6) (oi := _) (v := ?_) rfl (by kernel_rfl) (fun _ _ _ h => h) (Or.inl ⟨by rfl, ?_⟩) ?_
                  rotate_left
                  · (intro W hS; (try dsimp only at hS); clear hS; go_simp; with_reducible rfl)
                  try simp only [Act.put, List.getElem_toArray, List.getElem_cons_succ, List.getElem_cons_zero, List.setIfInBounds_toArray, List.set_cons_zero, List.set_cons_succ]
                  refine WD_free (i := 7) (oi := _) (v := ?_) rfl (by kernel_rfl) (fun _ _ _ h => h) (Or.inl ⟨by rfl, ?_⟩) ?_
                  rotate_left
                  · (intro W hS; (try dsimp only at hS); clear hS; go_simp; with_reducible rfl)
                  try simp only [Act.put, List.getElem_toArray, List.getElem_cons_succ, List.getElem_cons_zero, List.setIfInBounds_toArray, List.set_cons_zero, List.set_cons_succ]
                  refine WD_free (i := 8) (oi := _) (v := ?_) rfl (by kernel_rfl) (fun _ _ _ h => h) (Or.inl ⟨by rfl, ?_⟩) ?_
                  rotate_left
                  · (intro W hS; (try dsimp only at hS); clear hS; go_simp; with_reducible rfl)
                  try simp only [Act.put, List.getElem_toArray, List.getElem_cons_succ, List.getElem_cons_zero, List.setIfInBounds_toArray, List.set_cons_zero, List.set_cons_succ]
                  refine WD_step (i := 0) (o := _) rfl (by kernel_rfl) (fun K hK => ?_)
                  go_simp
                  have b1 : Below B.heap.size B (B.alloc (.cells #[] 3)).drew := ((Below.refl _ _).alloc (Nat.le_refl _) _).drew
                  replace hHeld := b1
                  have ho0 : (B.alloc (.cells #[] 3)).drew.ownsRow B.heap.size 3 1 (.slice (some ⟨B.heap.size, 0, none⟩) 0 0) 0 [] := World.ownsRow.drew (World.ownsRow_made B #[] 0 (Nat.le_refl _) (by decide) rfl)
                  refine hK.out _ _ (fun _ _ => hHeld) ?_
                  clear hK K
                  try simp only [Act.put, List.getElem_toArray, List.getElem_cons_succ, List.getElem_cons_zero, List.setIfInBounds_toArray, List.set_cons_zero, List.set_cons_succ]
                  refine WD_step (i := 4) (o := _) rfl (by kernel_rfl) (fun K hK => ?_)
                  refine step_app_own rfl (.tmp 91) (.tmp 94) 58 rfl B.heap.size 3 j0 (.int .i64 0) 1 8 ju ji jz0 jz1 jz2 rfl (by decide) _ _ _ rfl ho0 _ _ _ (natV (lf.take 0)) rfl (by rw [natV_len, List.length_take, Nat.min_eq_left (Nat.le_of_lt hAt), Nat.mul_one]) (row_take (HRA4.out.below b1).lef 0) (natV_one _) (by unfold maxLen; omega) (by omega) (by simp) ?_
                  intro v1 w3 ho1 hg1
                  have b2 : Below B.heap.size B w3 := b1.grown hg1 (by simp) (fun j hj => (ho0.lt j hj).1)
                  replace hHeld := b2
                  refine hK.out _ _ (fun _ _ => hHeld) ?_
                  clear hK K
                  try simp only [Act.put, List.getElem_toArray, List.getElem_cons_succ, List.getElem_cons_zero, List.setIfInBounds_toArray, List.set_cons_zero, List.set_cons_succ]
                  refine WD_step (i := 9) (o := _) rfl (by kernel_rfl) (fun K hK => ?_)
                  refine step_app_own rfl (.tmp 95) (.tmp 99) 58 rfl B.heap.size 3 j0 (.int .i64 0) 1 8 ju ji jz0 jz1 jz2 rfl (by decide) _ _ _ rfl ho1 _ _ _ (natV (lf.drop 1)) rfl (by rw [natV_len, List.length_drop]; omega) (Hdr.out _ (HRA4.out.below b2).lef) (natV_one _) (by unfold maxLen; omega) (by omega) hHeld.size ?_
                  intro v2 w4 ho2 hg2
                  have b3 : Below B.heap.size B w4 := b2.grown hg2 hHeld.size (fun j hj => (ho1.lt j hj).1)
                  replace hHeld := b3
                  refine hK.out _ _ (fun _ _ => hHeld) ?_
                  clear hK K
                  try simp only [Act.put, List.getElem_toArray, List.getElem_cons_succ, List.getElem_cons_zero, List.setIfInBounds_toArray, List.set_cons_zero, List.set_cons_succ]
                  refine WD_free (i := 10) (oi := _) (v := ?_) rfl (by kernel_rfl) (fun _ _ _ h => h) (Or.inl ⟨by rfl, ?_⟩) ?_
                  rotate_left
                  · (intro W hS; (try dsimp only at hS); clear hS; go_simp; with_reducible rfl)
                  try simp only [Act.put, List.getElem_toArray, List.getElem_cons_succ, List.getElem_cons_zero, List.setIfInBounds_toArray, List.set_cons_zero, List.set_cons_succ]
                  refine WD_done (by kernel_rfl) ?_ _
                  have hlf : (lf.take 0 ++ lf.drop 1).length + 1 = lf.length := by rw [List.length_append, List.length_take, List.length_drop]; omega
                  have HRA5 := Lib.hid (HRA4.out.newL (lf' := lf.take 0 ++ lf.drop 1) b3 (by
                    have h9 : natV (lf.take 0 ++ lf.drop 1) = [] ++ natV (lf.take 0) ++ natV (lf.drop 1) := by simp [natV]
                    rw [h9]
                    refine cast ?_ ho2
                    congr 1
                    omega))
                  have HZ : Hid (sendsL xs ++ takesL tk ++ [⟨2, (Y : Int), 0⟩] = sendsL xs ++ takesL (tk ++ [Y])) := Lib.hid (by rw [takes_snoc, List.append_assoc])
                  rw [HZ.out] at HRA5
                  clear ho0 ho1 ho2 hg1 hg2 b1 b2 b3 hHeld HRA4
                  go_wp2_with fail
                  go_roundw
                  case rel => exact ⟨k + 1, tk ++ [Y], lf.take 0 ++ lf.drop 1, by go_num, by omega, by rw [List.length_append, List.length_singleton]; omega, Lib.hid HONE.out.1, Lib.hid HONE.out.2, HRA5.out⟩
                  case measure => simp [intOf]; omega
              · have hlf0 : lf.length = 0 := by omega
                have hkJ : k = J := by omega
                subst hkJ
                obtain ⟨ta, tc, rfl, htc⟩ := own_shape1 hRA.tok
                have hzn : lf = [] := List.length_eq_zero_iff.1 hlf0
                rw [hzn, List.append_nil] at HND HBD
                obtain ⟨pa, pc, rfl, hposts⟩ := posts_of hRA.scr (by
                  intro x hx
                  unfold fits
                  rcases List.mem_append.1 hx with h3 | h3
                  · obtain ⟨y, hy, rfl⟩ := List.mem_map.1 h3
                    have := HXs.out y hy
                    exact ⟨by simp, by simp, by simp; omega⟩
                  · obtain ⟨y, hy, rfl⟩ := List.mem_map.1 h3
                    have := HBD.out y hy
                    exact ⟨by simp, by simp; omega, by simp⟩)
                have HP := Lib.hid (ratchet_Play k0 k pa _ pc _ _ hk (by omega) hposts (by omega))
                have hany := fun (q m : Nat) (h : tk[q]? = some m) => any_law (k0 := k0) HXs.out HND.out (fun m hm => by rw [E1.out]; exact HBD.out m hm) h
                rw [E1.out] at hany
                have HANY := Lib.hid hany
                have HTC := Lib.hid htc
                have HRA := Lib.hid hRA
                have hbel := hRA.bel
                rw [hzl] at HP ⊢
                clear hany htc hRA hlc hposts hlf hlf0 hzn
                have p1 : (0 : Int) < 0 ↔ False := by simp
                go_wp2_with fail
                refine HP.out.mono ?_
                rintro e W2 ⟨pv, rfl, hb2, hown⟩
                obtain ⟨oa, oc, rfl, hcell⟩ := outs_cells hown
                have HCL := Lib.hid hcell
                have HB2 := Lib.hid hb2
                have HB3 := Lib.hid (hbel.trans (hb2.mono hbel.size))
                clear hown hcell hb2 hbel HP p1
                go_wp2_with fail
                go_loopw [120] (fun q W5 => ∃ Q : Nat, q = .int .i64 (Q : Int) ∧ Q ≤ tk.length ∧ Below W2.heap.size W2 W5) (fun q _ => tk.length - (intOf q).toNat)
                case atStart => exact ⟨0, rfl, Nat.zero_le _, Below.refl _ _⟩
                case round =>
                  obtain ⟨Q, rfl, hQ, hb5⟩ := hrel
                  have HB5 := Lib.hid hb5
                  have HB6 := Lib.hid (HB3.out.trans (hb5.mono HB3.out.size))
                  clear hb5
                  by_cases hQl : Q < tk.length
                  · obtain ⟨tg, rfl, hc7⟩ := HTC.out Q hQl
                    obtain ⟨m, hm⟩ : ∃ m, tk[Q]? = some m := ⟨_, List.getElem?_eq_getElem hQl⟩
                    have hmg : tk.getD Q 0 = m := by rw [List.getD_eq_getElem?_getD, hm]; rfl
                    rw [hmg] at hc7
                    have hc9 := (HB2.out.cell (p := ⟨tg, Q, none⟩) (World.block_lt_of_cell? _ _ hc7)).trans hc7
                    have hc8 := (HB5.out.cell (p := ⟨tg, Q, none⟩) (World.block_lt_of_cell? _ _ hc9)).trans hc9
                    obtain ⟨pg, rfl, t1, t2⟩ := HCL.out _ _ (HANY.out Q m hm)
                    have p1 := (HB5.out.cell (p := ⟨pg, (k + Q) * 2, none⟩) (World.block_lt_of_cell? _ _ t1)).trans t1
                    have p2 := (HB5.out.cell (p := ⟨pg, (k + Q) * 2 + 1, none⟩) (World.block_lt_of_cell? _ _ t2)).trans t2
                    clear t1 t2 hc9
                    have hmk := HBD.out m (List.mem_of_getElem? hm)
                    obtain ⟨b, o, rfl, hc⟩ := (HR1.out.below HB6.out (Nat.le_refl _)).shape (by rw [E1.out]; omega)
                    obtain ⟨x, hx⟩ : ∃ x, xs[m]? = some x := ⟨_, List.getElem?_eq_getElem (by rw [E1.out]; exact hmk)⟩
                    have k1 := hc m x hx
                    have hxd : xs.getD m 0 = x := by rw [List.getD_eq_getElem?_getD, hx]; rfl
                    rw [hxd] at p2
                    simp only at p1 p2
                    clear hxd hx hc hmg hm hc7
                    go_wp2_with fail
                    go_quiet (fail)
                    go_wp2_with fail
                    go_roundw
                    case rel => exact ⟨Q + 1, by go_num, by omega, below_drewN HB5.out _⟩
                    case measure => simp [intOf]; omega
                  · have hQe : Q = tk.length := by omega
                    subst hQe
                    go_wp2
                    refine bodyPost_ret (v := .bool true) ?_ rfl ?_
                    · go_simp; first | rfl | kernel_rfl
                    · exact ⟨rfl, HB6.out⟩
end Go.Proofs.Ytpikjahgnnejmaa

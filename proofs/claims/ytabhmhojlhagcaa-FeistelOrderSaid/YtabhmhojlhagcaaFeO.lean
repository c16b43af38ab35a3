/- Contracts of package feistel: Seal, Open. -/
import Derived.Test.YtabhmhojlhagcaaFeS
import Derived.Test.YtabhmhojlhagcaaRB
import Derived.Test.YtabhmhojlhagcaaOwnG
import Derived.BigRegionIn
namespace Go.Proofs.Ytabhmhojlhagcaa
open Go.RowKit Go.Shelf
attribute [local go_sem] Oper.semAt_some
set_option linter.unusedVariables false
set_option linter.unusedSimpArgs false
set_option maxHeartbeats 1600000 in
theorem feistel_Seal (a : Option Addr) (c : Nat) (R : Nat → Option Addr × Nat) (rows : List (List Int)) (x : Nat) (w : World) (L : Nat) (h : RowR w a c R rows) (hL : rows.length = L) (hf : fsE rows x = 0) :
    Calls Try.prog 16 #[.slice a L c, .int .i64 x] w fun e w' => e = .returned (.tuple #[.int .i64 (sealN rows x), .int .i64 0]) ∧ Below w.heap.size w w' := by
  have hz := fsE_zero.1 hf
  have l64 := hz.1.len
  have HR := Lib.hid h
  have HW := Lib.hid fun w h => feistel_wrong a c R rows x w L h hL (by omega) (fun r hr => by rw [hz.1.row r hr]; omega)
  have HS := Lib.hid fun w h => feistel_seal a c R rows x w L h hL hz.1 (by omega)
  rw [hf] at HW
  obtain ⟨s, hs⟩ : ∃ s, sealN rows x = s := ⟨_, rfl⟩
  rw [hs] at HS ⊢
  clear hs hf hL h hz l64
  go_enter Try.func16, Try.ntmps16
  go_wp2_with fail
  refine (HW.out _ HR.out).mono ?_
  rintro e w1 ⟨rfl, hb1⟩
  have HR1 := Lib.hid (HR.out.below hb1 (Nat.le_refl _))
  go_wp2_with fail
  refine (HS.out _ HR1.out).mono ?_
  rintro e w2 ⟨rfl, n, rfl⟩
  go_wp2
  go_ret2
  exact ⟨rfl, below_drewN hb1 _⟩
set_option maxHeartbeats 1600000 in
theorem feistel_Seal_no (a : Option Addr) (c : Nat) (R : Nat → Option Addr × Nat) (rows : List (List Int)) (x : Int) (w : World) (L : Nat) (h : RowR w a c R rows) (hL : rows.length = L) (hl : L ≤ 9223372036854775807) (hrl : ∀ r ∈ rows, r.length ≤ 9223372036854775807) (hf : ¬ fsE rows x = 0) :
    Calls Try.prog 16 #[.slice a L c, .int .i64 x] w fun e w' => e = .returned (.tuple #[.int .i64 0, .int .i64 (fsE rows x)]) ∧ Below w.heap.size w w' := by
  have HR := Lib.hid h
  have HW := Lib.hid fun w h => feistel_wrong a c R rows x w L h hL hl hrl
  obtain ⟨s, hs⟩ : ∃ s, fsE rows x = s := ⟨_, rfl⟩
  rw [hs] at HW hf ⊢
  have e1 : (s == 0) = false := by simpa using hf
  have e2 : (s != 0) = true := by simpa using hf
  clear hs hL h hrl
  go_enter Try.func16, Try.ntmps16
  go_wp2_with fail
  refine (HW.out _ HR.out).mono ?_
  rintro e w1 ⟨rfl, hb1⟩
  go_wp2
  go_ret2
  exact ⟨rfl, hb1⟩
theorem feistel_Open_no (a : Option Addr) (c : Nat) (R : Nat → Option Addr × Nat) (rows : List (List Int)) (x : Int) (w : World) (L : Nat) (h : RowR w a c R rows) (hL : rows.length = L) (hl : L ≤ 9223372036854775807) (hrl : ∀ r ∈ rows, r.length ≤ 9223372036854775807) (hf : ¬ fsE rows x = 0) :
    Calls Try.prog 17 #[.slice a L c, .int .i64 x] w fun e w' => e = .returned (.tuple #[.int .i64 0, .int .i64 (fsE rows x)]) ∧ Below w.heap.size w w' := by
  have HR := Lib.hid h
  have HW := Lib.hid fun w h => feistel_wrong a c R rows x w L h hL hl hrl
  obtain ⟨s, hs⟩ : ∃ s, fsE rows x = s := ⟨_, rfl⟩
  rw [hs] at HW hf ⊢
  have e1 : (s == 0) = false := by simpa using hf
  have e2 : (s != 0) = true := by simpa using hf
  clear hs hL h hrl
  refine (callsIn_wide (n := 0)).1 ?_
  refine callsIn_of_wp_marks Try.func17 rfl trivial ?_ rfl
  simp only [Try.ntmps17, List.size_toArray, List.length_cons, List.length_nil, Nat.reduceAdd, Nat.reduceSub, Array.replicate_succ, Array.replicate_zero, List.push_toArray, List.append_toArray, List.nil_append, List.cons_append]
  gi_wp2
  refine ⟨trivial, rfl, (callsIn_wide.2 (HW.out _ HR.out)).mono ?_⟩
  rintro e w1 ⟨rfl, hb1⟩
  gi_wp2
  refine ⟨.tuple #[.int .i64 0, .int .i64 s], ?_, rfl, hb1⟩
  simp [results, Try.f17, go_sem]
def encR (R : Nat → Option Addr × Nat) (i : Nat) : Array Value := #[.int .i64 i, .slice (R i).1 16 (R i).2]
theorem rev_at {L K : Nat} (h : K < L) : (List.range L).reverse[L - (K + 1)]? = some K := by
  rw [List.getElem?_reverse (by simp; omega), List.length_range, show L - 1 - (L - (K + 1)) = K by omega, List.getElem?_range h]
theorem rev_step {L K : Nat} (h : K < L) : (List.range L).reverse.take (L - (K + 1)) ++ [K] = (List.range L).reverse.take (L - K) := by
  rw [show L - K = L - (K + 1) + 1 by omega, List.take_add_one, rev_at h]; rfl
set_option maxRecDepth 20000 in
set_option maxHeartbeats 2000000 in
theorem back_rows (a : Option Addr) (c Bn : Nat) (R : Nat → Option Addr × Nat) (rows : List (List Int)) (L : Nat) (hL : rows.length = L) (hl : L ≤ 1048576) (h16 : ∀ r ∈ rows, r.length = 16) :
    IterG Try.prog 46 Bn (encR R) (List.range L).reverse (fun W => Boxed W Bn 33 (.slice a L c) ∧ RowR W a c R rows) := by
  intro n l J Jx W hRd hY h0
  have HRd := Lib.hid hRd
  have HY := Lib.hid hY
  have HST := Lib.hid fun K => rev_step (L := L) (K := K)
  have HAll := Lib.hid (show (List.range L).reverse.take (L - 0) = (List.range L).reverse by rw [List.take_of_length_le (by simp)])
  have HN := Lib.hid (show (List.range L).reverse.take (L - L) = [] by rw [Nat.sub_self, List.take_zero])
  have H16 := Lib.hid h16
  have HL := Lib.hid hL
  have hR0 := hRd _ _ h0
  have hc := hR0.1.cell
  have hfz := hR0.1.frozen
  have H0 := Lib.hid h0
  clear hR0 hRd hY h0 hL h16
  refine callsIn_of_wp Try.func46 rfl trivial ?_ rfl
  simp only [Try.ntmps46, List.size_toArray, List.length_cons, List.length_nil, Nat.reduceAdd, Nat.reduceSub, Array.replicate_succ, Array.replicate_zero, List.push_toArray, List.append_toArray, List.nil_append, List.cons_append]
  gi_wp2
  gi_loopw [3] (fun s wr => ∃ K : Nat, s = .int .i64 ((K : Int) - 1) ∧ K ≤ L ∧ J ((List.range L).reverse.take (L - K)) wr) (fun s _ => (intOf s + 1).toNat)
  case atStart => exact ⟨L, rfl, Nat.le_refl _, by rw [HN.out]; exact H0.out⟩
  case round =>
    obtain ⟨K, rfl, hK, hj⟩ := hrel
    by_cases hK0 : K = 0
    · subst hK0
      have HJ := Lib.hid hj
      clear hj
      gi_wp2
      go_end0
      exact ⟨⟨_, rfl⟩, .inl (by rw [← HAll.out]; exact HJ.out)⟩
    · obtain ⟨k, rfl⟩ : ∃ k, K = k + 1 := ⟨K - 1, by omega⟩
      clear hK0
      rw [show (((k + 1 : Nat) : Int) - 1) = (k : Int) by omega]
      obtain ⟨hb1, hr1⟩ := HRd.out _ _ hj
      have hc1 := hb1.cell
      have hfz1 := hb1.frozen
      obtain ⟨b, o, rfl, hcell⟩ := hr1.shape (by rw [HL.out]; omega)
      obtain ⟨x, hx⟩ : ∃ x, rows[k]? = some x := ⟨_, List.getElem?_eq_getElem (by rw [HL.out]; omega)⟩
      have kx := hcell k x hx
      rw [H16.out x (List.mem_of_getElem? hx)] at kx
      have hst := HST.out k (by omega)
      have hpre : (List.range L).reverse.take (L - (k + 1)) ++ [k] <+: (List.range L).reverse := by rw [hst]; exact List.take_prefix _ _
      obtain ⟨fn, tmps, assign, body, hy, hR⟩ := HY.out _ k _ hj hpre
      have HR := Lib.hid hR
      have HS := Lib.hid hst
      have HP := Lib.hid hpre
      clear hR hst hcell hx hb1 hr1 hj hpre
      dsimp only [encR] at hy
      gi_wp2
      refine ⟨fun h => (by cases h), HR.out.mono ?_⟩
      rintro e W3 (⟨rfl, hJ3⟩ | ⟨rfl, hJx3⟩)
      · gi_wp2
        go_roundw
        case rel => exact ⟨k, by go_num, by omega, by rw [← HS.out]; exact hJ3⟩
        case measure => simp [intOf]
      · gi_wp2
        refine bodyPost_ret (results_none rfl _ _ _) rfl ?_
        exact ⟨⟨_, rfl⟩, .inr ⟨_, HP.out, hJx3⟩⟩
set_option maxHeartbeats 800000 in
theorem rows_Backward (a : Option Addr) (len c : Nat) (w : World) :
    Calls Try.prog 33 #[.slice a len c] w fun e w' => e = .returned (.func (.func 46) #[] #[.pointer (some ⟨w.heap.size, 0, none⟩)]) ∧ w' = w.alloc (.cells #[.slice a len c] 33) := by
  go_enter Try.func33, Try.ntmps33
  go_wp2
  go_ret
  exact ⟨rfl, rfl⟩
/-- the world while Open runs: what was there, both halves, the rounds -/
structure OpI (w w1 : World) (v : Value) (l r : Nat) (W : World) : Prop where
  bel : Below w1.heap.size w1 W
  l : Boxed W w1.heap.size 3 (.int .i64 l)
  r : Boxed W (w1.heap.size + 1) 3 (.int .i64 r)
  v : Boxed W (w1.heap.size + 2) 33 v
theorem OpI.alloc {w w1 W : World} {v : Value} {l r : Nat} (h : OpI w w1 v l r W) (o : Obj) : OpI w w1 v l r (W.alloc o) := ⟨h.bel.alloc h.bel.size o, h.l.alloc o, h.r.alloc o, h.v.alloc o⟩
theorem OpI.put {w w1 W : World} {v : Value} {l r : Nat} (h : OpI w w1 v l r W) {k : Nat} (hk : w1.heap.size + 3 ≤ k) (o : Obj) : OpI w w1 v l r (W.putObj k o) :=
  ⟨below_put h.bel (by omega) o, boxed_put h.l (by omega) o, boxed_put h.r (by omega) o, boxed_put h.v (by omega) o⟩
theorem OpI.set {w w1 W : World} {v : Value} {l r : Nat} (h : OpI w w1 v l r W) (l' r' : Nat) : OpI w w1 v l' r' ((W.setCell ⟨w1.heap.size, 0, none⟩ (.int .i64 l')).setCell ⟨w1.heap.size + 1, 0, none⟩ (.int .i64 r')) :=
  ⟨(h.bel.setCell (p := ⟨w1.heap.size, 0, none⟩) (by simp) _).setCell (p := ⟨w1.heap.size + 1, 0, none⟩) (by simp) _, boxed_other (h.l.set _) (by omega) _, (boxed_other h.r (by omega) _).set _, boxed_other (boxed_other h.v (by omega) _) (by omega) _⟩
theorem OpI.drew {w w1 W : World} {v : Value} {l r : Nat} (h : OpI w w1 v l r W) : OpI w w1 v l r W.drew := ⟨h.bel.drew, h.l, h.r, h.v⟩
theorem rev_pre {L : Nat} {pre : List Nat} {x : Nat} (h : pre ++ [x] <+: (List.range L).reverse) : x < L ∧ pre.length = L - (x + 1) := by
  obtain ⟨t, ht⟩ := h
  have hx : (List.range L).reverse[pre.length]? = some x := by rw [← ht]; simp
  have hlt : pre.length < L := by have := (List.getElem?_eq_some_iff.1 hx).1; simpa using this
  rw [List.getElem?_reverse (by simpa using hlt), List.length_range, List.getElem?_range (by omega)] at hx
  simp at hx; omega
theorem openP_drop {rows : List (List Int)} {k : Nat} {r : List Int} (h : rows[k]? = some r) (lr : Nat × Nat) : openP (rows.drop k) lr = backF r (openP (rows.drop (k + 1)) lr) := by
  have hk := (List.getElem?_eq_some_iff.1 h)
  obtain ⟨hk, e⟩ := hk
  rw [List.drop_eq_getElem_cons hk, e]; rfl
set_option maxRecDepth 20000 in
set_option maxHeartbeats 3200000 in
theorem feistel_Open (a : Option Addr) (c : Nat) (R : Nat → Option Addr × Nat) (rows : List (List Int)) (x : Nat) (w : World) (L : Nat) (h : RowR w a c R rows) (hL : rows.length = L) (hf : fsE rows x = 0) :
    Calls Try.prog 17 #[.slice a L c, .int .i64 x] w fun e w' => e = .returned (.tuple #[.int .i64 (openN rows x), .int .i64 0]) ∧ Below w.heap.size w w' := by
  have hz := fsE_zero.1 hf
  have l64 := hz.1.len
  have HR := Lib.hid h
  have HN := Lib.hid hz.1
  have HW := Lib.hid fun w h => feistel_wrong a c R rows x w L h hL (by omega) (fun r hr => by rw [hz.1.row r hr]; omega)
  have HIt := Lib.hid fun Bn => back_rows a c Bn R rows L hL (by omega) hz.1.row
  have H0 := Lib.hid (In16.pr (show x < 256 by omega))
  rw [hf] at HW
  have HL := Lib.hid hL
  have x2 : x < 256 := by omega
  rw [hL] at l64
  clear hf hL h hz
  refine (callsIn_wide (n := 0)).1 ?_
  refine callsIn_of_wp_marks Try.func17 rfl trivial ?_ rfl
  simp only [Try.ntmps17, List.size_toArray, List.length_cons, List.length_nil, Nat.reduceAdd, Nat.reduceSub, Array.replicate_succ, Array.replicate_zero, List.push_toArray, List.append_toArray, List.nil_append, List.cons_append]
  gi_wp2
  refine ⟨trivial, rfl, (callsIn_wide.2 (HW.out _ HR.out)).mono ?_⟩
  rintro e w1 ⟨rfl, hb1⟩
  have HR1 := Lib.hid (HR.out.below hb1 (Nat.le_refl _))
  gi_wp2
  refine ⟨trivial, rfl, (callsIn_wide.2 (rows_Backward _ _ _ _)).mono ?_⟩
  rintro e w' ⟨rfl, rfl⟩
  gi_wp2
  refine wp_range_gen (gf := 46) (R := fun W => Boxed W (w1.heap.size + 2) 33 (.slice a L c) ∧ RowR W a c R rows) rfl (enters_of Try.func46 (by kernel_rfl) rfl) (HIt.out _) (fun _ => rfl)
    (fun pre W => ∃ (K l r : Nat), K ≤ L ∧ pre.length = L - K ∧ Hid ((l, r) = openP (rows.drop K) (prN x)) ∧ l < 16 ∧ r < 16 ∧ OpI w w1 (.slice a L c) l r W)
    (fun pre W => False) ?sal ?spu (fun _ _ _ _ _ _ _ _ h => h) ?hR ?i0
    (fun e => { tmps := #[.slice a L c, .int .i64 x, undef, undef, .int .i64 0, .int .i64 0, .int .i64 0, .pointer (some ⟨w1.heap.size, 0, none⟩), .pointer (some ⟨w1.heap.size + 1, 0, none⟩), undef, .slice (R e).1 16 (R e).2, .slice a L c, .int .i64 x, .int .i64 0, .int .i64 0, .bool false, undef, .int .i64 x, .int .i64 (x / 16), .int .i64 x, .int .i64 (x % 16), .slice a L c,
      .func (.func 46) #[] #[.pointer (some ⟨w1.heap.size + 1 + 1, 0, none⟩)], .int .i64 e, .slice (R e).1 16 (R e).2, undef, undef, undef, undef, undef, undef, undef, undef, undef, undef, undef], defers := [] }) ?assign ?body ?done (fun _ _ _ _ h => h.elim)
  case sal => exact fun pre W o ⟨K, l, r, h1, h2, h3, h4, h5, h⟩ => ⟨K, l, r, h1, h2, h3, h4, h5, h.alloc o⟩
  case spu =>
    simp only [World.size_alloc]
    exact fun pre W k o _ hk _ _ ⟨K, l, r, h1, h2, h3, h4, h5, h⟩ => ⟨K, l, r, h1, h2, h3, h4, h5, h.put (by omega) o⟩
  case hR => exact fun pre W ⟨_, _, _, _, _, _, _, _, h⟩ => ⟨h.v, HR1.out.below h.bel (Nat.le_refl _)⟩
  case i0 =>
    have b0 := Boxed.new w1 3 (.int .i64 ((x / 16 : Nat) : Int))
    have b1 := Boxed.new (w1.alloc (.cells #[.int .i64 ((x / 16 : Nat) : Int)] 3)) 3 (.int .i64 ((x % 16 : Nat) : Int))
    have b2 := Boxed.new ((w1.alloc (.cells #[.int .i64 ((x / 16 : Nat) : Int)] 3)).alloc (.cells #[.int .i64 ((x % 16 : Nat) : Int)] 3)) 33 (.slice a L c)
    simp only [World.size_alloc] at b1 b2
    rw [show ((x : Int) / 16) = ((x / 16 : Nat) : Int) by omega, show ((x : Int) % 16) = ((x % 16 : Nat) : Int) by omega]
    exact ⟨L, x / 16, x % 16, Nat.le_refl _, by simp, Lib.hid (by rw [List.drop_of_length_le (by rw [HL.out]; exact Nat.le_refl _)]; rfl), H0.out.1, H0.out.2, (((Below.refl _ _).alloc (Nat.le_refl _) _).alloc (by simp) _).alloc (by simp; omega) _, (b0.alloc _).alloc _, b1.alloc _, b2⟩
  case assign =>
    intro l e W K hK
    dsimp only [encR]
    gi_wp2
    exact hK
  case body =>
    rintro l pre e W ⟨K, hl, hr, h1, h2, h3, h4, h5, hI⟩ hpre
    obtain ⟨p1, p2⟩ := rev_pre hpre
    obtain rfl : K = e + 1 := by omega
    obtain ⟨row, hrow⟩ : ∃ r, rows[e]? = some r := ⟨_, List.getElem?_eq_getElem (by rw [HL.out]; exact p1)⟩
    have hm := List.mem_of_getElem? hrow
    have h16 := HN.out.row row hm
    obtain ⟨b2, o2, hb2, hc2⟩ := ((HR1.out.below hI.bel (Nat.le_refl _)).row e row hrow).shape (by omega)
    have kr := hc2 hl _ (atN_cast HN.out hm h4)
    have hs := openP_drop hrow (prN x)
    rw [← h3.out] at hs
    have hv := atN_lt HN.out hm hl
    have HS : Hid ((hr ^^^ atN row hl, hl) = openP (rows.drop e) (prN x)) := Lib.hid hs.symm
    clear hs hrow hm hc2 h16 h3 hpre h2
    rw [hb2]
    clear hb2
    obtain ⟨v, hvv⟩ : ∃ v, atN row hl = v := ⟨_, rfl⟩
    rw [hvv] at kr hv HS
    clear hvv
    have hx2 := i64_xor_nat hr v (by omega) (by omega)
    have hxl : hr ^^^ v < 16 := Nat.xor_lt_two_pow (n := 4) h5 hv
    have cl := hI.l.cell
    have cr := hI.r.cell
    have fl := hI.l.frozen
    have fr := hI.r.frozen
    have HI := Lib.hid hI
    have HP2 := Lib.hid p2
    clear hI p2
    have i3 : (0 : Int) ≤ hl := by omega
    have i4 : (hl : Int) < 16 := by omega
    gi_wp2
    gi_region
    all_goals
      gi_wp2
      refine ⟨((KeepsOthers.drew _).trans (KeepsOthers.setCell _ _ _)).trans (KeepsOthers.setCell _ _ _), e, hr ^^^ v, hl, by omega, by rw [List.length_append, HP2.out]; simp; omega, HS, hxl, h4, ?_⟩
      exact HI.out.drew.set _ _
  case done =>
    rintro D W ⟨K, l, r, h1, h2, h3, h4, h5, hI⟩ hK hD
    simp only [World.size_alloc] at hD
    obtain rfl : K = 0 := by simp at h2; omega
    have cl := hI.l.cell
    have cr := hI.r.cell
    have HI := Lib.hid hI
    clear hI
    have HE : Hid (openN rows x = l * 16 + r) := Lib.hid (by
      unfold openN
      have := h3.out
      rw [List.drop_zero] at this
      rw [← this]; rfl)
    clear h3
    gi_wp2
    refine ⟨by simp, .inl ⟨_, _, rfl, run_takeDeferred hK, ?_⟩⟩
    have hI5 := HI.out.put (show w1.heap.size + 3 ≤ D by omega) (.deferred none)
    refine ⟨.tuple #[.int .i64 (openN rows x), .int .i64 0], ?_, rfl, hb1.trans (hI5.bel.mono hb1.size)⟩
    rw [HE.out]
    simp [results, Try.f17, go_sem]
end Go.Proofs.Ytabhmhojlhagcaa

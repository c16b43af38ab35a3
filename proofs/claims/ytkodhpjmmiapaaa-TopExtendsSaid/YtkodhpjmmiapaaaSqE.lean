/- Merged: XRel2 XRel3 XRel4 XRelS. -/
import Derived.Test.YtkodhpjmmiapaaaSqC
import Derived.Test.YtkodhpjmmiapaaaSqD
/- (*relay.way).send. -/
namespace Go.Proofs.Ytkodhpjmmiapaaa
open Go.RowKit Go.Shelf
attribute [local go_sem] Oper.semAt_some
set_option linter.unusedVariables false
set_option linter.unusedSimpArgs false
set_option maxRecDepth 20000 in
set_option maxHeartbeats 6400000 in
theorem way_send (wb kg kc : Nat) (ks : List Nat) (th hm : Nat) (h : Hp) (a : Option Addr) (c : Nat) (w : World) (hw : WayAt w wb kg kc ks th hm) (hne : kg ≠ wb) (h3 : ks.length ≤ 3) (h5 : ∀ k ∈ ks, k < 65536) (hth : th ≤ 1000)
    (hb : RowB w a c h.body) (hb8 : ∀ x ∈ h.body, x < 256) (ht8 : h.turn < 256) (hwr : wrongF ks.length h = 0) :
    Calls Try.prog 12 #[.pointer (some ⟨wb, 0, none⟩), .agg (hopC h a c)] w fun e w' =>
      ∃ v, e = .returned (.tuple #[v, .int .i64 (sendF ks th h).1]) ∧ w'.ownsRow w.heap.size 5 1 v (sendF ks th h).2.length (byV (sendF ks th h).2) ∧ Below w.heap.size (w.setCell ⟨wb, 6, none⟩ (.int .i64 ((th + 1 : Nat) : Int))) w' := by
  obtain ⟨n1, n2, n3⟩ := wrong_le hwr
  have HA3 := Lib.hid n3
  obtain ⟨last, hlast⟩ : ∃ last, ks[ks.length - 1]? = some last := ⟨_, List.getElem?_eq_getElem (by omega)⟩
  have hll : ks.getLastD 0 = last := by
    rw [List.getLastD_eq_getLast?, List.getLast?_eq_getElem?, hlast]; rfl
  have hl16 := h5 last (List.mem_of_getElem? hlast)
  have HSend : Hid (sendF ks th h = readF last th (thereF h th 0 ks (backF th ks (cellN last th h.body)))) := Lib.hid (by unfold sendF; rw [hll])
  rw [HSend.out]
  obtain ⟨FF, hFF⟩ : ∃ FF, thereF h th 0 ks (backF th ks (cellN last th h.body)) = FF := ⟨_, rfl⟩
  rw [hFF]
  have HFF := Lib.hid hFF
  clear hFF
  obtain ⟨n, hn⟩ : ∃ n, ks.length = n := ⟨_, rfl⟩
  obtain ⟨L, hL⟩ : ∃ L, h.body.length = L := ⟨_, rfl⟩
  obtain ⟨x0, e0⟩ : ∃ x, h.kind = x := ⟨_, rfl⟩
  obtain ⟨x1, e1⟩ : ∃ x, h.k = x := ⟨_, rfl⟩
  obtain ⟨x2, e2⟩ : ∃ x, h.l = x := ⟨_, rfl⟩
  obtain ⟨x4, e4⟩ : ∃ x, h.link = x := ⟨_, rfl⟩
  obtain ⟨x5, e5⟩ : ∃ x, h.at' = x := ⟨_, rfl⟩
  obtain ⟨x6, e6⟩ : ∃ x, h.turn = x := ⟨_, rfl⟩
  have hhc : hopC h a c = #[.int .i64 x0, .int .i64 x1, .int .i64 x2, .slice a L c, .int .i64 x4, .int .i64 x5, .int .u8 (x6 : Int)] := by unfold hopC; rw [e0, e1, e2, e4, e5, e6, hL]
  have hWr := fun W (h5' : W.cell? ⟨wb, 5, none⟩ = some (.slice (some ⟨kg, 0, none⟩) n kc)) => way_wrong wb n kc (some ⟨kg, 0, none⟩) h a c W h5'
  have hwr' := hwr
  rw [hn] at hwr'
  rw [hwr', hhc] at hWr
  rw [hhc]
  have HWr := Lib.hid hWr
  have c5 := hw.k
  have c6 := hw.t
  have zwb : wb < w.heap.size := World.block_lt_of_cell? _ _ c5
  have f6 := hw.f 6
  have klast := hw.xs _ _ hlast
  rw [hn] at c5 klast n1 h3
  have zkg : kg < w.heap.size := World.block_lt_of_cell? _ _ klast
  have c5' := kept (alloc_below w (.cells #[.int .i64 x0, .int .i64 x1, .int .i64 x2, .slice a L c, .int .i64 x4, .int .i64 x5, .int .u8 (x6 : Int)] 33)) c5 zwb
  have HXs := Lib.hid hw.xs
  have HHc := Lib.hid hhc
  have HN := Lib.hid hn
  have HB := Lib.hid hb
  have HB8 := Lib.hid hb8
  have H5 := Lib.hid h5
  have HT8 := Lib.hid ht8
  obtain ⟨m, hm1⟩ : ∃ m, n - 1 = m := ⟨_, rfl⟩
  rw [hm1] at klast
  have hn1 : (n : Int) - 1 = (m : Int) := by omega
  have hmn : (m : Int) < (n : Int) := by omega
  have hwm : IntKind.i64.wrap (m : Int) = (m : Int) := IntWalk.i64_in _ (by omega)
  clear e0 e1 e2 e4 e5 e6 hWr hw hwr hwr' hhc hn hll HSend hb hb8 h5 ht8 n3
  refine (callsIn_wide (n := 0)).1 ?_
  refine callsIn_of_wp_marks Try.func12 rfl trivial ?_ rfl
  simp only [Try.ntmps12, List.size_toArray, List.length_cons, List.length_nil, Nat.reduceAdd, Nat.reduceSub, Array.replicate_succ, Array.replicate_zero, List.push_toArray, List.append_toArray, List.nil_append, List.cons_append]
  gi_wp2
  refine ⟨trivial, rfl, (callsIn_wide.2 (HWr.out _ c5')).mono ?_⟩
  rintro e w2 ⟨rfl, hb2⟩
  have hB2 := (alloc_below w (.cells #[.int .i64 x0, .int .i64 x1, .int .i64 x2, .slice a L c, .int .i64 x4, .int .i64 x5, .int .u8 (x6 : Int)] 33)).trans (hb2.mono (by simp))
  have hop2 : w2.heap[w.heap.size]? = some (.cells #[.int .i64 x0, .int .i64 x1, .int .i64 x2, .slice a L c, .int .i64 x4, .int .i64 x5, .int .u8 (x6 : Int)] 33) := (hb2.block _ (by simp)).trans (World.alloc_heap_new w _)
  have c5_2 := kept hB2 c5 zwb
  have c6_2 := kept hB2 c6 zwb
  have f6_2 := (hB2.frozen (p := ⟨wb, 6, none⟩) zwb).trans f6
  have kl_2 := kept hB2 klast zkg
  obtain ⟨hb, hhb⟩ : ∃ b, w.heap.size = b := ⟨_, rfl⟩
  rw [hhb] at hop2 ⊢
  have hs2 : hb < w2.heap.size := (Array.getElem?_eq_some_iff.1 hop2).1
  have HB2 := Lib.hid hB2
  have HHb := Lib.hid hhb
  have zwb2 : wb < w2.heap.size := by omega
  have zkg2 : kg < w2.heap.size := by omega
  have hwh : wb ≠ hb := by omega
  have HLast := Lib.hid hlast
  clear hm1 c5' c5 c6 f6 klast hb2 hB2 hhb zwb zkg hlast
  gi_wp2
  refine wpIn_region_DN (S := (fun W' : World => Below w2.heap.size w2 W')) (fun _ => true) (by kernel_rfl) (Below.refl _ _).drew (fun hHeld => ?_)
  simp only [List.size_toArray, List.length_cons, List.length_nil, Nat.reduceAdd, Array.replicate_succ, Array.replicate_zero, List.push_toArray, List.append_toArray, List.nil_append, List.cons_append]
  refine WDI_free (i := 0) (oi := _) (v := ?_) rfl (by kernel_rfl) (fun _ _ _ h => h) (Or.inl ⟨by rfl, ?_⟩) (fun _ => by rfl) ?_
  rotate_left
  · (intro W' hS; (try dsimp only at hS); clear hS; go_simp; with_reducible rfl)
  try simp only [Act.put, List.getElem_toArray, List.getElem_cons_succ, List.getElem_cons_zero, List.setIfInBounds_toArray, List.set_cons_zero, List.set_cons_succ]
  refine WDI_free (i := 1) (oi := _) (v := ?_) rfl (by kernel_rfl) (fun _ _ _ h => h) (Or.inl ⟨by rfl, ?_⟩) (fun _ => by rfl) ?_
  rotate_left
  · (intro W' hS; (try dsimp only at hS); clear hS; go_simp; with_reducible rfl)
  try simp only [Act.put, List.getElem_toArray, List.getElem_cons_succ, List.getElem_cons_zero, List.setIfInBounds_toArray, List.set_cons_zero, List.set_cons_succ]
  refine WDI_free (i := 2) (oi := _) (v := ?_) rfl (by kernel_rfl) (fun _ _ _ h => h) (Or.inl ⟨by rfl, ?_⟩) (fun _ => by rfl) ?_
  rotate_left
  · (intro W' hS; (try dsimp only at hS); clear hS; go_simp; with_reducible rfl)
  try simp only [Act.put, List.getElem_toArray, List.getElem_cons_succ, List.getElem_cons_zero, List.setIfInBounds_toArray, List.set_cons_zero, List.set_cons_succ]
  refine WDI_take (i := 3) (oi := _) (v := ?_) rfl (by kernel_rfl) (fun _ _ _ h => h) (Or.inl ⟨by rfl, ?_⟩) (fun _ => by rfl) (by assumption) ?_
  rotate_left
  · (intro W' hS; (try dsimp only at hS); have kk := (hS.cell (p := ⟨wb, 5, none⟩) zwb2).trans c5_2; clear hS; go_simp; with_reducible rfl)
  try simp only [Act.put, List.getElem_toArray, List.getElem_cons_succ, List.getElem_cons_zero, List.setIfInBounds_toArray, List.set_cons_zero, List.set_cons_succ]
  refine WDI_free (i := 4) (oi := _) (v := ?_) rfl (by kernel_rfl) (fun _ _ _ h => h) (Or.inl ⟨by rfl, ?_⟩) (fun _ => by rfl) ?_
  rotate_left
  · (intro W' hS; (try dsimp only at hS); clear hS; go_simp; with_reducible rfl)
  try simp only [Act.put, List.getElem_toArray, List.getElem_cons_succ, List.getElem_cons_zero, List.setIfInBounds_toArray, List.set_cons_zero, List.set_cons_succ]
  refine WDI_free (i := 5) (oi := _) (v := ?_) rfl (by kernel_rfl) (fun _ _ _ h => h) (Or.inl ⟨by rfl, ?_⟩) (fun _ => by rfl) ?_
  rotate_left
  · (intro W' hS; (try dsimp only at hS); clear hS; go_simp; with_reducible rfl)
  try simp only [Act.put, List.getElem_toArray, List.getElem_cons_succ, List.getElem_cons_zero, List.setIfInBounds_toArray, List.set_cons_zero, List.set_cons_succ]
  refine WDI_free (i := 6) (oi := _) (v := ?_) rfl (by kernel_rfl) (fun _ _ _ h => h) (Or.inl ⟨by rfl, ?_⟩) (fun _ => by rfl) ?_
  rotate_left
  · (intro W' hS; (try dsimp only at hS); clear hS; go_simp; with_reducible rfl)
  try simp only [Act.put, List.getElem_toArray, List.getElem_cons_succ, List.getElem_cons_zero, List.setIfInBounds_toArray, List.set_cons_zero, List.set_cons_succ]
  refine WDI_take (i := 7) (oi := _) (v := ?_) rfl (by kernel_rfl) (fun _ _ _ h => h) (Or.inl ⟨by rfl, ?_⟩) (fun _ => by rfl) (by assumption) ?_
  rotate_left
  · (intro W' hS; (try dsimp only at hS); have kk := (hS.cell (p := ⟨wb, 5, none⟩) zwb2).trans c5_2; clear hS; go_simp; with_reducible rfl)
  try simp only [Act.put, List.getElem_toArray, List.getElem_cons_succ, List.getElem_cons_zero, List.setIfInBounds_toArray, List.set_cons_zero, List.set_cons_succ]
  refine WDI_free (i := 8) (oi := _) (v := ?_) rfl (by kernel_rfl) (fun _ _ _ h => h) (Or.inl ⟨by rfl, ?_⟩) (fun _ => by rfl) ?_
  rotate_left
  · (intro W' hS; (try dsimp only at hS); clear hS; go_simp; with_reducible rfl)
  try simp only [Act.put, List.getElem_toArray, List.getElem_cons_succ, List.getElem_cons_zero, List.setIfInBounds_toArray, List.set_cons_zero, List.set_cons_succ]
  refine WDI_free (i := 9) (oi := _) (v := ?_) rfl (by kernel_rfl) (fun _ _ _ h => h) (Or.inl ⟨by rfl, ?_⟩) (fun _ => by rfl) ?_
  rotate_left
  · (intro W' hS; (try dsimp only at hS); clear hS; go_simp; with_reducible rfl)
  try simp only [Act.put, List.getElem_toArray, List.getElem_cons_succ, List.getElem_cons_zero, List.setIfInBounds_toArray, List.set_cons_zero, List.set_cons_succ]
  refine WDI_free (i := 10) (oi := _) (v := ?_) rfl (by kernel_rfl) (fun _ _ _ h => h) (Or.inl ⟨by rfl, ?_⟩) (fun _ => by rfl) ?_
  rotate_left
  · (intro W' hS; (try dsimp only at hS); clear hS; go_simp; with_reducible rfl)
  try simp only [Act.put, List.getElem_toArray, List.getElem_cons_succ, List.getElem_cons_zero, List.setIfInBounds_toArray, List.set_cons_zero, List.set_cons_succ]
  refine WDI_take (i := 11) (oi := _) (v := ?_) rfl (by kernel_rfl) (fun _ _ _ h => h) (Or.inl ⟨by rfl, ?_⟩) (fun _ => by rfl) (by assumption) ?_
  rotate_left
  · (intro W' hS; (try dsimp only at hS); have kk := (hS.cell (p := ⟨kg, m, none⟩) zkg2).trans kl_2; clear hS; go_simp; with_reducible rfl)
  try simp only [Act.put, List.getElem_toArray, List.getElem_cons_succ, List.getElem_cons_zero, List.setIfInBounds_toArray, List.set_cons_zero, List.set_cons_succ]
  refine WDI_free (i := 12) (oi := _) (v := ?_) rfl (by kernel_rfl) (fun _ _ _ h => h) (Or.inl ⟨by rfl, ?_⟩) (fun _ => by rfl) ?_
  rotate_left
  · (intro W' hS; (try dsimp only at hS); clear hS; go_simp; with_reducible rfl)
  try simp only [Act.put, List.getElem_toArray, List.getElem_cons_succ, List.getElem_cons_zero, List.setIfInBounds_toArray, List.set_cons_zero, List.set_cons_succ]
  refine WDI_done (by kernel_rfl) ?_ _
  dsimp only [normOnly, Exit.then]
  gi_wp2
  obtain ⟨sb, hsb⟩ : ∃ b, w2.heap.size = b := ⟨_, rfl⟩
  have f1 := sent_world (w2.setCell ⟨wb, 6, none⟩ (.int .i64 ((th : Int) + 1))) (.cells #[.slice none 0 0, .int .i64 (th : Int)] 66) (.cells #[.pointer (some ⟨sb, 0, none⟩)] 64)
  rw [setCell_size, hsb] at f1
  rw [hsb] at hs2 zwb2 zkg2 ⊢
  have f2 : Below w.heap.size (w.setCell ⟨wb, 6, none⟩ (.int .i64 ((th + 1 : Nat) : Int))) (w2.setCell ⟨wb, 6, none⟩ (.int .i64 ((th : Int) + 1))) := below_set2 HB2.out _ _
  have f3 : RowB (w2.setCell ⟨wb, 6, none⟩ (.int .i64 ((th : Int) + 1))) a c h.body := rowB_set (HB.out.below HB2.out (Nat.le_refl _)) c6_2 _
  have f4 : ∀ (j x : Nat), ks[j]? = some x → (w2.setCell ⟨wb, 6, none⟩ (.int .i64 ((th : Int) + 1))).cell? ⟨kg, j, none⟩ = some (.int .i64 (x : Int)) := fun j x hx => by
    have q := HXs.out j x hx
    rw [World.cell?_setCell_far _ _ _ _ (show (⟨wb, 6, none⟩ : Addr).block ≠ (⟨kg, j, none⟩ : Addr).block from fun e => hne e.symm)]
    exact (HB2.out.cell (p := ⟨kg, j, none⟩) (World.block_lt_of_cell? _ _ q)).trans q
  have f5 : (w2.setCell ⟨wb, 6, none⟩ (.int .i64 ((th : Int) + 1))).cell? ⟨wb, 5, none⟩ = some (.slice (some ⟨kg, 0, none⟩) n kc) := (sset_other (by decide)).trans c5_2
  have f6 : (w2.setCell ⟨wb, 6, none⟩ (.int .i64 ((th : Int) + 1))).heap[hb]? = _ := (Below.heap_setCell _ _ _ _ (show hb ≠ wb from fun e => hwh e.symm)).trans hop2
  generalize (((w2.setCell ⟨wb, 6, none⟩ (.int .i64 ((th : Int) + 1))).alloc (.cells #[.slice none 0 0, .int .i64 (th : Int)] 66)).alloc (.cells #[.pointer (some ⟨sb, 0, none⟩)] 64)).drew = W6 at f1 ⊢
  obtain ⟨s6, box6, t86, hB6⟩ := f1
  have hsz : w.heap.size ≤ sb := by rw [← hsb]; exact HB2.out.size
  have HF := Lib.hid (f2.trans (hB6.mono hsz))
  have z0 : (w2.setCell ⟨wb, 6, none⟩ (.int .i64 ((th : Int) + 1))).heap.size = sb := by rw [setCell_size]; exact hsb
  have HRow := Lib.hid (f3.below hB6 (Nat.le_of_eq z0))
  have HXs6 : Hid (∀ (j x : Nat), ks[j]? = some x → W6.cell? ⟨kg, j, none⟩ = some (.int .i64 (x : Int))) := Lib.hid fun j x hx => by
    have q := f4 j x hx
    exact (hB6.cell (p := ⟨kg, j, none⟩) (by rw [← z0]; exact World.block_lt_of_cell? _ _ q)).trans q
  have c5_6 := (hB6.cell (p := ⟨wb, 5, none⟩) zwb2).trans f5
  have hop6 := (hB6.block hb hs2).trans f6
  have t6 : W6.cell? ⟨sb + 1, 0, none⟩ = some (.pointer (some ⟨sb, 0, none⟩)) := by simp [World.cell?, t86]
  have b61 : W6.cell? ⟨sb, 1, none⟩ = some (.int .i64 (th : Int)) := by simp [World.cell?, box6]
  have b60 : W6.cell? ⟨sb, 0, none⟩ = some (.slice none 0 0) := by simp [World.cell?, box6]
  have fb60 : W6.frozen? ⟨sb, 0, none⟩ = false := by simp [World.frozen?, box6]
  have hc3 := (hop_cells hop6).2.2.2.1
  have zs6 : sb < W6.heap.size := by omega
  have zt6 : sb + 1 < W6.heap.size := by omega
  have zh6 : hb < W6.heap.size := by omega
  have hMk := fun w' (hr : RowB w' a c h.body) => cell_Make last th a c h.body w' hl16 (by omega) hr n2 HB8.out
  rw [hL] at hMk
  have HMk := Lib.hid hMk
  have HT6 := Lib.hid t86
  have HBox := Lib.hid box6
  clear hMk f2 f3 f4 f5 f6 hB6 z0 t86 box6 c5_2 c6_2 f6_2 kl_2 hop2 HB2 HB hsb HWr HXs hn1 hmn hwm hHeld
  clear w2
  refine wpIn_region_DN (S := (fun W' : World => Below W6.heap.size W6 W')) (fun j => j != 14) (by kernel_rfl) (Below.refl _ _).drew (fun hHeld => ?_)
  simp only [List.size_toArray, List.length_cons, List.length_nil, Nat.reduceAdd, Array.replicate_succ, Array.replicate_zero, List.push_toArray, List.append_toArray, List.nil_append, List.cons_append]
  refine WDI_take (i := 0) (oi := _) (v := ?_) rfl (by kernel_rfl) (fun _ _ _ h => h) (Or.inl ⟨by rfl, ?_⟩) (fun _ => by rfl) (by assumption) ?_
  rotate_left
  · (intro W' hS; (try dsimp only at hS); have kk := (hS.cell (p := ⟨sb + 1, 0, none⟩) zt6).trans t6; clear hS; go_simp; with_reducible rfl)
  try simp only [Act.put, List.getElem_toArray, List.getElem_cons_succ, List.getElem_cons_zero, List.setIfInBounds_toArray, List.set_cons_zero, List.set_cons_succ]
  refine WDI_free (i := 1) (oi := _) (v := ?_) rfl (by kernel_rfl) (fun _ _ _ h => h) (Or.inl ⟨by rfl, ?_⟩) (fun _ => by rfl) ?_
  rotate_left
  · (intro W' hS; (try dsimp only at hS); clear hS; go_simp; with_reducible rfl)
  try simp only [Act.put, List.getElem_toArray, List.getElem_cons_succ, List.getElem_cons_zero, List.setIfInBounds_toArray, List.set_cons_zero, List.set_cons_succ]
  refine WDI_take (i := 2) (oi := _) (v := ?_) rfl (by kernel_rfl) (fun _ _ _ h => h) (Or.inl ⟨by rfl, ?_⟩) (fun _ => by rfl) (by assumption) ?_
  rotate_left
  · (intro W' hS; (try dsimp only at hS); have kk := (hS.cell (p := ⟨sb + 1, 0, none⟩) zt6).trans t6; clear hS; go_simp; with_reducible rfl)
  try simp only [Act.put, List.getElem_toArray, List.getElem_cons_succ, List.getElem_cons_zero, List.setIfInBounds_toArray, List.set_cons_zero, List.set_cons_succ]
  refine WDI_free (i := 3) (oi := _) (v := ?_) rfl (by kernel_rfl) (fun _ _ _ h => h) (Or.inl ⟨by rfl, ?_⟩) (fun _ => by rfl) ?_
  rotate_left
  · (intro W' hS; (try dsimp only at hS); clear hS; go_simp; with_reducible rfl)
  try simp only [Act.put, List.getElem_toArray, List.getElem_cons_succ, List.getElem_cons_zero, List.setIfInBounds_toArray, List.set_cons_zero, List.set_cons_succ]
  refine WDI_free (i := 4) (oi := _) (v := ?_) rfl (by kernel_rfl) (fun _ _ _ h => h) (Or.inl ⟨by rfl, ?_⟩) (fun _ => by rfl) ?_
  rotate_left
  · (intro W' hS; (try dsimp only at hS); clear hS; go_simp; with_reducible rfl)
  try simp only [Act.put, List.getElem_toArray, List.getElem_cons_succ, List.getElem_cons_zero, List.setIfInBounds_toArray, List.set_cons_zero, List.set_cons_succ]
  refine WDI_take (i := 5) (oi := _) (v := ?_) rfl (by kernel_rfl) (fun _ _ _ h => h) (Or.inl ⟨by rfl, ?_⟩) (fun _ => by rfl) (by assumption) ?_
  rotate_left
  · (intro W' hS; (try dsimp only at hS); have kk := (hS.cell (p := ⟨sb, 1, none⟩) zs6).trans b61; clear hS; go_simp; with_reducible rfl)
  try simp only [Act.put, List.getElem_toArray, List.getElem_cons_succ, List.getElem_cons_zero, List.setIfInBounds_toArray, List.set_cons_zero, List.set_cons_succ]
  refine WDI_free (i := 6) (oi := _) (v := ?_) rfl (by kernel_rfl) (fun _ _ _ h => h) (Or.inl ⟨by rfl, ?_⟩) (fun _ => by rfl) ?_
  rotate_left
  · (intro W' hS; (try dsimp only at hS); clear hS; go_simp; with_reducible rfl)
  try simp only [Act.put, List.getElem_toArray, List.getElem_cons_succ, List.getElem_cons_zero, List.setIfInBounds_toArray, List.set_cons_zero, List.set_cons_succ]
  refine WDI_take (i := 7) (oi := _) (v := ?_) rfl (by kernel_rfl) (fun _ _ _ h => h) (Or.inl ⟨by rfl, ?_⟩) (fun _ => by rfl) (by assumption) ?_
  rotate_left
  · (intro W' hS; (try dsimp only at hS); have kk := (hS.cell (p := ⟨hb, 3, none⟩) zh6).trans hc3; clear hS; go_simp; with_reducible rfl)
  try simp only [Act.put, List.getElem_toArray, List.getElem_cons_succ, List.getElem_cons_zero, List.setIfInBounds_toArray, List.set_cons_zero, List.set_cons_succ]
  refine WDI_step (i := 8) (o := _) rfl (by kernel_rfl) (fun K hK => ?_)
  rw [if_pos (by rfl)]
  unfold Oper.wpIn
  refine ⟨(fun _ _ => trivial), ?_⟩
  rw [Oper.semAt_eq _ _ _ (fun c h => by cases h)]
  go_simp
  refine ⟨rfl, (callsIn_wide.2 (HMk.out _ (HRow.out.below hHeld (Nat.le_refl _)))).mono ?_⟩
  rintro e w6 ⟨v6, rfl, hb6, hown6⟩
  obtain ⟨g6, k6, rfl, hg6, _, hk6, hk6'⟩ := own_shape hown6 (by decide)
  go_simp
  replace hHeld := below_two hHeld hb6
  refine hK.out _ _ (fun _ _ => hHeld) ?_
  clear hK K
  try simp only [Act.put, List.getElem_toArray, List.getElem_cons_succ, List.getElem_cons_zero, List.setIfInBounds_toArray, List.set_cons_zero, List.set_cons_succ]
  refine WDI_free (i := 9) (oi := _) (v := ?_) rfl (by kernel_rfl) (fun _ _ _ h => h) (Or.inl ⟨by rfl, ?_⟩) (fun _ => by rfl) ?_
  rotate_left
  · (intro W' hS; (try dsimp only at hS); clear hS; go_simp; with_reducible rfl)
  try simp only [Act.put, List.getElem_toArray, List.getElem_cons_succ, List.getElem_cons_zero, List.setIfInBounds_toArray, List.set_cons_zero, List.set_cons_succ]
  refine WDI_free (i := 10) (oi := _) (v := ?_) rfl (by kernel_rfl) (fun _ _ _ h => h) (Or.inl ⟨by rfl, ?_⟩) (fun _ => by rfl) ?_
  rotate_left
  · (intro W' hS; (try dsimp only at hS); clear hS; go_simp; with_reducible rfl)
  try simp only [Act.put, List.getElem_toArray, List.getElem_cons_succ, List.getElem_cons_zero, List.setIfInBounds_toArray, List.set_cons_zero, List.set_cons_succ]
  refine WDI_free (i := 11) (oi := _) (v := ?_) rfl (by kernel_rfl) (fun _ _ _ h => h) (Or.inl ⟨by rfl, ?_⟩) (fun _ => by rfl) ?_
  rotate_left
  · (intro W' hS; (try dsimp only at hS); clear hS; go_simp; with_reducible rfl)
  try simp only [Act.put, List.getElem_toArray, List.getElem_cons_succ, List.getElem_cons_zero, List.setIfInBounds_toArray, List.set_cons_zero, List.set_cons_succ]
  refine WDI_free (i := 12) (oi := _) (v := ?_) rfl (by kernel_rfl) (fun _ _ _ h => h) (Or.inl ⟨by rfl, ?_⟩) (fun _ => by rfl) ?_
  rotate_left
  · (intro W' hS; (try dsimp only at hS); clear hS; go_simp; with_reducible rfl)
  try simp only [Act.put, List.getElem_toArray, List.getElem_cons_succ, List.getElem_cons_zero, List.setIfInBounds_toArray, List.set_cons_zero, List.set_cons_succ]
  refine WDI_free (i := 13) (oi := _) (v := ?_) rfl (by kernel_rfl) (fun _ _ _ h => h) (Or.inl ⟨by rfl, ?_⟩) (fun _ => by rfl) ?_
  rotate_left
  · (intro W' hS; (try dsimp only at hS); clear hS; go_simp; with_reducible rfl)
  try simp only [Act.put, List.getElem_toArray, List.getElem_cons_succ, List.getElem_cons_zero, List.setIfInBounds_toArray, List.set_cons_zero, List.set_cons_succ]
  refine WDI_step (i := 14) (o := _) rfl (by kernel_rfl) (fun K hK => ?_)
  rw [if_pos (by rfl)]
  unfold Oper.wpIn
  refine ⟨(fun _ h => by first | trivial | cases h), ?_⟩
  rw [Oper.semAt_eq _ _ _ (fun c h => by cases h)]
  have b60' := (hHeld.cell (p := ⟨sb, 0, none⟩) zs6).trans b60
  have fb60' := (hHeld.frozen (p := ⟨sb, 0, none⟩) zs6).trans fb60
  go_simp
  refine hK.out _ _ (fun h => by cases h) ?_
  clear hK K
  try simp only [Act.put, List.getElem_toArray, List.getElem_cons_succ, List.getElem_cons_zero, List.setIfInBounds_toArray, List.set_cons_zero, List.set_cons_succ]
  refine WDI_done (by kernel_rfl) ?_ _
  dsimp only [normOnly, Exit.then]
  have g1 : SentAt (w6.setCell ⟨sb, 0, none⟩ (.slice (some ⟨g6, 0, none⟩) 17 k6)) sb W6.heap.size (cellN last th h.body) th :=
    ⟨⟨g6, k6, World.cell?_setCell_same' _ _ _ (by simp [(hHeld.cell (p := ⟨sb, 0, none⟩) zs6).trans b60]), sown_far (own_lower hown6 (Nat.le_refl _)) zs6 _⟩, (sset_other (by decide)).trans ((hHeld.cell (p := ⟨sb, 1, none⟩) zs6).trans b61), by rw [World.frozen?_setCell]; exact (hHeld.frozen (p := ⟨sb, 0, none⟩) zs6).trans fb60, ⟨cellN_len n2, cellN_lt n2 HB8.out⟩⟩
  have g2 : Butn sb W6 (w6.setCell ⟨sb, 0, none⟩ (.slice (some ⟨g6, 0, none⟩) 17 k6)) :=
    ⟨(hHeld.mono (Nat.le_of_lt zs6)).setCell (p := ⟨sb, 0, none⟩) (Nat.le_refl _) _, fun j hj hn => by
      rw [Below.heap_setCell _ _ _ _ (show j ≠ (⟨sb, 0, none⟩ : Addr).block from hn)]; exact hHeld.block j hj⟩
  generalize w6.setCell ⟨sb, 0, none⟩ (.slice (some ⟨g6, 0, none⟩) 17 k6) = W7 at g1 g2 ⊢
  have HG1 := Lib.hid g1
  have HG2 := Lib.hid g2
  have c5_7 := g2.cell c5_6 (show wb ≠ sb by omega)
  have z7 := g2.bel.size
  clear g1 g2 hHeld hb6 hown6 hg6 hk6 hk6' b60' fb60' b61 b60 fb60 hc3 HMk
  gi_wp2
  refine ⟨trivial, rfl, (callsIn_wide.2 (keys_Backward _ _ _ _)).mono ?_⟩
  rintro e w8 ⟨rfl, hw8⟩
  obtain ⟨B, hB⟩ : ∃ B, W7.heap.size = B := ⟨_, rfl⟩
  have bx8 : Boxed w8 B 42 (.slice (some ⟨kg, 0, none⟩) n kc) := by rw [hw8, ← hB]; exact Boxed.new _ _ _
  have q1 : SentAt w8 sb W6.heap.size (cellN last th h.body) th := by rw [hw8]; exact HG1.out.keep (alloc_below _ _)
  have q2 : Butn sb W6 w8 := by rw [hw8]; exact HG2.out.alloc zs6 _
  have zs8 : sb < w8.heap.size := q1.lt
  have z8 := q2.bel.size
  have hBs : B ≠ sb := by omega
  have t8 := q2.cell t6 (show sb + 1 ≠ sb by omega)
  have c5_8 := q2.cell c5_6 (show wb ≠ sb by omega)
  have HX8 : Hid (∀ (j x : Nat), ks[j]? = some x → w8.cell? ⟨kg, j, none⟩ = some (.int .i64 (x : Int))) := Lib.hid fun j x hx => q2.cell (HXs6.out j x hx) (by omega)
  have HQ1 := Lib.hid q1
  have HQ2 := Lib.hid q2
  have HBx := Lib.hid bx8
  have HHop6 := Lib.hid hop6
  have HT6' := Lib.hid t6
  rw [hB]
  clear q1 q2 hw8 hB bx8 HG1 HG2 c5_7 z7 c5_6 hop6 HT6 HBox HRow t6
  gi_wp2
  refine wp_range_capsE (gf := 41) (encs := encK ks) (R := fun W => Boxed W B 42 (.slice (some ⟨kg, 0, none⟩) n kc) ∧ ∀ (j : Nat) (x : Nat), ks[j]? = some x → W.cell? ⟨kg, j, none⟩ = some (.int .i64 (x : Int))) rfl (enters_of Try.func41 (by kernel_rfl) rfl) (back_keys kg kc B ks n HN.out (by omega)) (fun _ => rfl)
    (fun pre W => ∃ K, pre.length + K = n ∧ SentAt W sb W6.heap.size (backF th (ks.drop K) (cellN last th h.body)) th ∧ Butn sb w8 W)
    (fun pre W => False) ?sal ?spu (fun _ _ _ _ _ _ _ _ h => h) ?hR ?sdr ?i0 ?round ?done (fun _ _ _ _ h => h.elim)
  case sal => exact fun pre W x ⟨K, h1, h2, h3⟩ => ⟨K, h1, h2.keep (alloc_below _ _), h3.alloc zs8 x⟩
  case spu => exact fun pre W k x y hk hy hc ⟨K, h1, h2, h3⟩ => ⟨K, h1, h2.put (by omega) hy hc x, h3.put zs8 hk x⟩
  case hR => exact fun pre W ⟨K, h1, h2, h3⟩ => ⟨(h3.block B HBx.out.lt hBs).trans HBx.out, fun j x hx => h3.cell (HX8.out j x hx) (by omega)⟩
  case sdr => exact fun pre W ⟨K, h1, ⟨r0, r1, r2, r3⟩, ⟨s1, s2⟩⟩ => ⟨K, h1, ⟨r0, r1, r2, r3⟩, ⟨s1.drew, s2⟩⟩
  case i0 => exact ⟨n, by simp, by rw [List.drop_of_length_le (by rw [HN.out]; exact Nat.le_refl _)]; exact HQ1.out, Butn.refl _ _⟩
  case round =>
    rintro l pre k W ⟨K, hK, hS, hBn⟩ hpre
    have hl := rev_len hpre
    obtain rfl : K = k + 1 := by omega
    obtain ⟨x, hx⟩ : ∃ x, ks[k]? = some x := ⟨_, List.getElem?_eq_getElem (by rw [HN.out]; omega)⟩
    have hgd : ks.getD k 0 = x := by rw [List.getD_eq_getElem?_getD, hx]; rfl
    have hx16 := H5.out x (List.mem_of_getElem? hx)
    have HLy := Lib.hid (sent_layer x sb W6.heap.size th _ W hS hx16 (by omega))
    have HE : Hid (backF th (ks.drop k) (cellN last th h.body) = layN x th (backF th (ks.drop (k + 1)) (cellN last th h.body))) := Lib.hid (by rw [drop_at hx]; rfl)
    have tW := hBn.cell t8 (show sb + 1 ≠ sb by omega)
    have HBn := Lib.hid hBn
    have HLe : Hid (W6.heap.size ≤ W.heap.size) := Lib.hid (Nat.le_trans z8 hBn.bel.size)
    have HPre : Hid ((pre ++ [k]).length + k = n) := Lib.hid (by simp; omega)
    clear hS hBn hK hl hx hpre t8 c5_8
    apply Exists.intro
    refine ⟨?_, ?_⟩
    · intro W' K' hK'
      have HK' := Lib.hid hK'
      clear hK'
      dsimp only [encK]
      rw [hgd]
      gi_wp2
      exact HK'.out
    · gi_wp2
      refine ⟨trivial, rfl, (CallsIn.inRound l (callsIn_wide.2 HLy.out)).mono ?_⟩
      rintro e w1 ⟨rfl, hS1, hB1⟩
      have HS1 := Lib.hid hS1
      have HB1 := Lib.hid hB1
      clear hS1 hB1
      gi_wp2
      exact ⟨HB1.out.ko, k, HPre.out, by rw [HE.out]; exact HS1.out.lower HLe.out, HBn.out.trans HB1.out.n⟩
  case done =>
    rintro D W ⟨K, hK, hS, hBn⟩ hD hDs
    obtain rfl : K = 0 := by simp at hK; omega
    rw [List.drop_zero] at hS
    have HS := Lib.hid hS
    have HBn := Lib.hid hBn
    have HDs := Lib.hid hDs
    have HD := Lib.hid hD
    have c5W := hBn.cell c5_8 (show wb ≠ sb by omega)
    clear hS hBn hDs hD hK c5_8
    gi_wp2
    clear t8 c5W
    gi_loopw [73] (fun s wr => ∃ (i : Nat) (xs : List Nat), s = .int .i64 (i : Int) ∧ i ≤ n ∧ thereF h th i (ks.drop i) xs = FF ∧ SentAt wr sb W6.heap.size xs th ∧ Butn sb W6 wr ∧ KeepsOthers W wr) (fun s _ => n - (intOf s).toNat)
    case atStart => exact ⟨0, _, rfl, Nat.zero_le _, by rw [List.drop_zero]; exact HFF.out, HS.out, HQ2.out.trans HBn.out, KeepsOthers.refl _⟩
    case round =>
      obtain ⟨i, xs, rfl, hi, hF, hS, hB, hKO⟩ := hrel
      have tR := hB.cell HT6'.out (show sb + 1 ≠ sb by omega)
      by_cases hin : i < n
      · obtain ⟨x, hx⟩ : ∃ x, ks[i]? = some x := ⟨_, List.getElem?_eq_getElem (by rw [HN.out]; exact hin)⟩
        have hx16 := H5.out x (List.mem_of_getElem? hx)
        rw [drop_at hx] at hF
        have HF1 : Hid (thereF h th (i + 1) (ks.drop (i + 1)) (layN x th (passF h i xs)) = FF) := Lib.hid hF
        have kx := hB.cell (HXs6.out i x hx) (show kg ≠ sb by omega)
        have hlt : (i : Int) < (n : Int) := by omega
        have hpp := sent_pass i sb W6.heap.size th xs h a c _ hS HT8.out HA3.out zs6 hB.bel.size
        rw [HHc.out] at hpp
        have HPp := Lib.hid hpp
        obtain ⟨p0, p1, p2, p3, p4, p5, p6⟩ := hop_cells ((hB.block hb zh6 (by omega)).trans HHop6.out)
        have HB := Lib.hid hB
        have HKO := Lib.hid hKO
        clear hpp hF hS hB hKO hx hi hin
        gi_wp2
        refine ⟨trivial, rfl, (callsIn_wide.2 HPp.out).mono ?_⟩
        rintro e w1 ⟨rfl, hS1, hB1, hK1⟩
        have hB2 : Butn sb W6 w1 := HB.out.below hB1 (Nat.le_refl _) zs6
        have tR1 := hB2.cell HT6'.out (show sb + 1 ≠ sb by omega)
        have HLy := Lib.hid (sent_layer x sb W6.heap.size th _ w1 hS1 hx16 (by omega))
        have HB2 := Lib.hid hB2
        have HK1 := Lib.hid (HKO.out.trans hK1)
        clear hS1 hB1 hK1 hB2 p0 p1 p2 p3 p4 p5 p6 kx tR HB HKO HPp
        gi_wp2
        refine ⟨trivial, rfl, (callsIn_wide.2 HLy.out).mono ?_⟩
        rintro e w3 ⟨rfl, hS3, hB3⟩
        have HS3 := Lib.hid (hS3.lower HB2.out.bel.size)
        have HB3 := Lib.hid (HB2.out.trans hB3.n)
        have HK3 := Lib.hid (HK1.out.trans hB3.ko)
        clear hS3 hB3 tR1 HLy
        gi_wp2
        go_roundw
        case rel => exact ⟨i + 1, _, by go_num, by omega, HF1.out, HS3.out, HB3.out, HK3.out⟩
        case measure => simp [intOf]; omega
      · obtain rfl : i = n := by omega
        rw [List.drop_of_length_le (by rw [HN.out]; exact Nat.le_refl _)] at hF
        obtain rfl : xs = FF := hF
        have hnlt : ¬ (i : Int) < (i : Int) := by omega
        obtain ⟨g, cc, c0, hown⟩ := hS.c0
        have hcl := hS.cl
        have hrb : RowB wr (some ⟨g, 0, none⟩) cc xs := by
          have := hown
          rw [← hcl.1] at this
          obtain ⟨a', c', he, hr, _⟩ := own_rowB this
          injection he with e1 e2 e3
          subst e1 e3
          exact hr
        obtain ⟨_, _, _, hcc, _⟩ := own_heap hown
        have c1 := hS.c1
        have zsR : sb < wr.heap.size := hS.lt
        have ztR : sb + 1 < wr.heap.size := World.block_lt_of_cell? _ _ tR
        have HRd := Lib.hid fun w' (hr : RowB w' (some ⟨g, 0, none⟩) cc xs) => read_all last th g cc xs w' hl16 (by omega) hr hcc hcl
        have HRb := Lib.hid hrb
        have HB := Lib.hid hB
        have HKD : Hid (wr.heap[D]? = some (.deferred (some []))) := Lib.hid (hKO.same D _ HD.out rfl)
        have hDw : w.heap.size ≤ D := by have := HDs.out; omega
        have HL1 : Hid (w.heap.size ≤ wr.heap.size) := Lib.hid (by omega)
        clear hin hi hS hB hKO hrb hown hcl hcc
        gi_wp2
        refine wpIn_region_DN (S := (fun W' : World => Below wr.heap.size wr W')) (fun _ => true) (by kernel_rfl) (Below.refl _ _).drew (fun hHeld => ?_)
        simp only [List.size_toArray, List.length_cons, List.length_nil, Nat.reduceAdd, Array.replicate_succ, Array.replicate_zero, List.push_toArray, List.append_toArray, List.nil_append, List.cons_append]
        refine WDI_free (i := 0) (oi := _) (v := ?_) rfl (by kernel_rfl) (fun _ _ _ h => h) (Or.inl ⟨by rfl, ?_⟩) (fun _ => by rfl) ?_
        rotate_left
        · (intro W' hS; (try dsimp only at hS); clear hS; go_simp; with_reducible rfl)
        try simp only [Act.put, List.getElem_toArray, List.getElem_cons_succ, List.getElem_cons_zero, List.setIfInBounds_toArray, List.set_cons_zero, List.set_cons_succ]
        refine WDI_take (i := 1) (oi := _) (v := ?_) rfl (by kernel_rfl) (fun _ _ _ h => h) (Or.inl ⟨by rfl, ?_⟩) (fun _ => by rfl) (by assumption) ?_
        rotate_left
        · (intro W' hS; (try dsimp only at hS); have kk := (hS.cell (p := ⟨sb + 1, 0, none⟩) ztR).trans tR; clear hS; go_simp; with_reducible rfl)
        try simp only [Act.put, List.getElem_toArray, List.getElem_cons_succ, List.getElem_cons_zero, List.setIfInBounds_toArray, List.set_cons_zero, List.set_cons_succ]
        refine WDI_free (i := 2) (oi := _) (v := ?_) rfl (by kernel_rfl) (fun _ _ _ h => h) (Or.inl ⟨by rfl, ?_⟩) (fun _ => by rfl) ?_
        rotate_left
        · (intro W' hS; (try dsimp only at hS); clear hS; go_simp; with_reducible rfl)
        try simp only [Act.put, List.getElem_toArray, List.getElem_cons_succ, List.getElem_cons_zero, List.setIfInBounds_toArray, List.set_cons_zero, List.set_cons_succ]
        refine WDI_free (i := 3) (oi := _) (v := ?_) rfl (by kernel_rfl) (fun _ _ _ h => h) (Or.inl ⟨by rfl, ?_⟩) (fun _ => by rfl) ?_
        rotate_left
        · (intro W' hS; (try dsimp only at hS); clear hS; go_simp; with_reducible rfl)
        try simp only [Act.put, List.getElem_toArray, List.getElem_cons_succ, List.getElem_cons_zero, List.setIfInBounds_toArray, List.set_cons_zero, List.set_cons_succ]
        refine WDI_take (i := 4) (oi := _) (v := ?_) rfl (by kernel_rfl) (fun _ _ _ h => h) (Or.inl ⟨by rfl, ?_⟩) (fun _ => by rfl) (by assumption) ?_
        rotate_left
        · (intro W' hS; (try dsimp only at hS); have kk := (hS.cell (p := ⟨sb, 1, none⟩) zsR).trans c1; clear hS; go_simp; with_reducible rfl)
        try simp only [Act.put, List.getElem_toArray, List.getElem_cons_succ, List.getElem_cons_zero, List.setIfInBounds_toArray, List.set_cons_zero, List.set_cons_succ]
        refine WDI_take (i := 5) (oi := _) (v := ?_) rfl (by kernel_rfl) (fun _ _ _ h => h) (Or.inl ⟨by rfl, ?_⟩) (fun _ => by rfl) (by assumption) ?_
        rotate_left
        · (intro W' hS; (try dsimp only at hS); have kk := (hS.cell (p := ⟨sb + 1, 0, none⟩) ztR).trans tR; clear hS; go_simp; with_reducible rfl)
        try simp only [Act.put, List.getElem_toArray, List.getElem_cons_succ, List.getElem_cons_zero, List.setIfInBounds_toArray, List.set_cons_zero, List.set_cons_succ]
        refine WDI_free (i := 6) (oi := _) (v := ?_) rfl (by kernel_rfl) (fun _ _ _ h => h) (Or.inl ⟨by rfl, ?_⟩) (fun _ => by rfl) ?_
        rotate_left
        · (intro W' hS; (try dsimp only at hS); clear hS; go_simp; with_reducible rfl)
        try simp only [Act.put, List.getElem_toArray, List.getElem_cons_succ, List.getElem_cons_zero, List.setIfInBounds_toArray, List.set_cons_zero, List.set_cons_succ]
        refine WDI_free (i := 7) (oi := _) (v := ?_) rfl (by kernel_rfl) (fun _ _ _ h => h) (Or.inl ⟨by rfl, ?_⟩) (fun _ => by rfl) ?_
        rotate_left
        · (intro W' hS; (try dsimp only at hS); clear hS; go_simp; with_reducible rfl)
        try simp only [Act.put, List.getElem_toArray, List.getElem_cons_succ, List.getElem_cons_zero, List.setIfInBounds_toArray, List.set_cons_zero, List.set_cons_succ]
        refine WDI_take (i := 8) (oi := _) (v := ?_) rfl (by kernel_rfl) (fun _ _ _ h => h) (Or.inl ⟨by rfl, ?_⟩) (fun _ => by rfl) (by assumption) ?_
        rotate_left
        · (intro W' hS; (try dsimp only at hS); have kk := (hS.cell (p := ⟨sb, 0, none⟩) zsR).trans c0; clear hS; go_simp; with_reducible rfl)
        try simp only [Act.put, List.getElem_toArray, List.getElem_cons_succ, List.getElem_cons_zero, List.setIfInBounds_toArray, List.set_cons_zero, List.set_cons_succ]
        refine WDI_step (i := 9) (o := _) rfl (by kernel_rfl) (fun K hK => ?_)
        rw [if_pos (by rfl)]
        unfold Oper.wpIn
        refine ⟨(fun _ _ => trivial), ?_⟩
        rw [Oper.semAt_eq _ _ _ (fun c h => by cases h)]
        go_simp
        refine ⟨rfl, (callsIn_wide.2 (HRd.out _ (HRb.out.below hHeld (Nat.le_refl _)))).mono ?_⟩
        rintro e w9 ⟨v9, rfl, hb9, hown9⟩
        go_simp
        replace hHeld := below_two hHeld hb9
        refine hK.out _ _ (fun _ _ => hHeld) ?_
        clear hK K
        try simp only [Act.put, List.getElem_toArray, List.getElem_cons_succ, List.getElem_cons_zero, List.setIfInBounds_toArray, List.set_cons_zero, List.set_cons_succ]
        refine WDI_free (i := 10) (oi := _) (v := ?_) rfl (by kernel_rfl) (fun _ _ _ h => h) (Or.inl ⟨by rfl, ?_⟩) (fun _ => by rfl) ?_
        rotate_left
        · (intro W' hS; (try dsimp only at hS); clear hS; go_simp; with_reducible rfl)
        try simp only [Act.put, List.getElem_toArray, List.getElem_cons_succ, List.getElem_cons_zero, List.setIfInBounds_toArray, List.set_cons_zero, List.set_cons_succ]
        refine WDI_free (i := 11) (oi := _) (v := ?_) rfl (by kernel_rfl) (fun _ _ _ h => h) (Or.inl ⟨by rfl, ?_⟩) (fun _ => by rfl) ?_
        rotate_left
        · (intro W' hS; (try dsimp only at hS); clear hS; go_simp; with_reducible rfl)
        try simp only [Act.put, List.getElem_toArray, List.getElem_cons_succ, List.getElem_cons_zero, List.setIfInBounds_toArray, List.set_cons_zero, List.set_cons_succ]
        refine WDI_free (i := 12) (oi := _) (v := ?_) rfl (by kernel_rfl) (fun _ _ _ h => h) (Or.inl ⟨by rfl, ?_⟩) (fun _ => by rfl) ?_
        rotate_left
        · (intro W' hS; (try dsimp only at hS); clear hS; go_simp; with_reducible rfl)
        try simp only [Act.put, List.getElem_toArray, List.getElem_cons_succ, List.getElem_cons_zero, List.setIfInBounds_toArray, List.set_cons_zero, List.set_cons_succ]
        refine WDI_free (i := 13) (oi := _) (v := ?_) rfl (by kernel_rfl) (fun _ _ _ h => h) (Or.inl ⟨by rfl, ?_⟩) (fun _ => by rfl) ?_
        rotate_left
        · (intro W' hS; (try dsimp only at hS); clear hS; go_simp; with_reducible rfl)
        try simp only [Act.put, List.getElem_toArray, List.getElem_cons_succ, List.getElem_cons_zero, List.setIfInBounds_toArray, List.set_cons_zero, List.set_cons_succ]
        refine WDI_done (by kernel_rfl) ?_ _
        dsimp only [normOnly, Exit.then]
        have HW9 := Lib.hid hHeld
        have HO9 := Lib.hid hown9
        have HK9 : Hid (w9.heap[D]? = some (.deferred (some []))) := Lib.hid ((hHeld.block D (Array.getElem?_eq_some_iff.1 HKD.out).1).trans HKD.out)
        clear hHeld hb9 hown9
        gi_wp2
        refine ⟨by simp, .inl ⟨_, _, rfl, run_takeDeferred HK9.out, ?_⟩⟩
        refine ⟨.tuple #[v9, .int .i64 (readF last th xs).1], ?_, v9, rfl, ownsRow_putObj (own_lower HO9.out HL1.out) _ HK9.out rfl, below_put ((HF.out.trans (HB.out.bel.mono hsz)).trans (HW9.out.mono HL1.out)) hDw _⟩
        simp [results, Try.f12, go_sem]
end Go.Proofs.Ytkodhpjmmiapaaa

/- (*relay.way).answer. -/
namespace Go.Proofs.Ytkodhpjmmiapaaa
open Go.RowKit Go.Shelf
attribute [local go_sem] Oper.semAt_some
set_option linter.unusedVariables false
set_option linter.unusedSimpArgs false
set_option maxRecDepth 20000 in
set_option maxHeartbeats 6400000 in
theorem way_answer (wb kg kc : Nat) (ks : List Nat) (th hm cn : Nat) (hcn : cn = 1073741824 + hm) (h : Hp) (a : Option Addr) (c : Nat) (w : World) (hw : WayAt w wb kg kc ks th hm) (hne : kg ≠ wb) (h3 : ks.length ≤ 3) (h5 : ∀ k ∈ ks, k < 65536) (hth : hm ≤ 1000)
    (hb : RowB w a c h.body) (hb8 : ∀ x ∈ h.body, x < 256) (ht8 : h.turn < 256) (hwr : wrongF ks.length h = 0) :
    Calls Try.prog 13 #[.pointer (some ⟨wb, 0, none⟩), .agg (hopC h a c)] w fun e w' =>
      ∃ v, e = .returned (.tuple #[v, .int .i64 (ansF ks cn h).1]) ∧ w'.ownsRow w.heap.size 5 1 v (ansF ks cn h).2.length (byV (ansF ks cn h).2) ∧ Below w.heap.size (w.setCell ⟨wb, 7, none⟩ (.int .i64 ((hm + 1 : Nat) : Int))) w' := by
  obtain ⟨n1, n2, n3⟩ := wrong_le hwr
  have HA3 := Lib.hid n3
  obtain ⟨last, hlast⟩ : ∃ last, ks[ks.length - 1]? = some last := ⟨_, List.getElem?_eq_getElem (by omega)⟩
  have hll : ks.getLastD 0 = last := by
    rw [List.getLastD_eq_getLast?, List.getLast?_eq_getElem?, hlast]; rfl
  have hl16 := h5 last (List.mem_of_getElem? hlast)
  have HSend : Hid (ansF ks cn h = readF last cn (offF cn ks (homeF h cn 0 ks (cellN last cn h.body)))) := Lib.hid (by unfold ansF; rw [hll])
  rw [HSend.out]
  obtain ⟨FF, hFF⟩ : ∃ FF, offF cn ks (homeF h cn 0 ks (cellN last cn h.body)) = FF := ⟨_, rfl⟩
  rw [hFF]
  have HFF := Lib.hid hFF
  clear hFF
  obtain ⟨n, hn⟩ : ∃ n, ks.length = n := ⟨_, rfl⟩
  obtain ⟨L, hL⟩ : ∃ L, h.body.length = L := ⟨_, rfl⟩
  obtain ⟨x0, e0⟩ : ∃ x, h.kind = x := ⟨_, rfl⟩
  obtain ⟨x1, e1⟩ : ∃ x, h.k = x := ⟨_, rfl⟩
  obtain ⟨x2, e2⟩ : ∃ x, h.l = x := ⟨_, rfl⟩
  obtain ⟨x4, e4⟩ : ∃ x, h.link = x := ⟨_, rfl⟩
  obtain ⟨x5, e5⟩ : ∃ x, h.at' = x := ⟨_, rfl⟩
  obtain ⟨x6, e6⟩ : ∃ x, h.turn = x := ⟨_, rfl⟩
  have hhc : hopC h a c = #[.int .i64 x0, .int .i64 x1, .int .i64 x2, .slice a L c, .int .i64 x4, .int .i64 x5, .int .u8 (x6 : Int)] := by unfold hopC; rw [e0, e1, e2, e4, e5, e6, hL]
  have hWr := fun W (h5' : W.cell? ⟨wb, 5, none⟩ = some (.slice (some ⟨kg, 0, none⟩) n kc)) => way_wrong wb n kc (some ⟨kg, 0, none⟩) h a c W h5'
  have hwr' := hwr
  rw [hn] at hwr'
  rw [hwr', hhc] at hWr
  rw [hhc]
  have HWr := Lib.hid hWr
  have c5 := hw.k
  have c6 := hw.m
  have hcnI : (1073741824 : Int) + (hm : Int) = (cn : Int) := by omega
  have hcn2 : cn ≤ 2147483648 := by omega
  clear hcn
  have zwb : wb < w.heap.size := World.block_lt_of_cell? _ _ c5
  have f6 := hw.f 7
  have klast := hw.xs _ _ hlast
  rw [hn] at c5 klast n1 h3
  have zkg : kg < w.heap.size := World.block_lt_of_cell? _ _ klast
  have c5' := kept (alloc_below w (.cells #[.int .i64 x0, .int .i64 x1, .int .i64 x2, .slice a L c, .int .i64 x4, .int .i64 x5, .int .u8 (x6 : Int)] 33)) c5 zwb
  have HXs := Lib.hid hw.xs
  have HHc := Lib.hid hhc
  have HN := Lib.hid hn
  have HB := Lib.hid hb
  have HB8 := Lib.hid hb8
  have H5 := Lib.hid h5
  have HT8 := Lib.hid ht8
  obtain ⟨m, hm1⟩ : ∃ m, n - 1 = m := ⟨_, rfl⟩
  rw [hm1] at klast
  have hn1 : (n : Int) - 1 = (m : Int) := by omega
  have hmn : (m : Int) < (n : Int) := by omega
  have hwm : IntKind.i64.wrap (m : Int) = (m : Int) := IntWalk.i64_in _ (by omega)
  clear e0 e1 e2 e4 e5 e6 hWr hw hwr hwr' hhc hn hll HSend hb hb8 h5 ht8 n3
  refine (callsIn_wide (n := 0)).1 ?_
  refine callsIn_of_wp_marks Try.func13 rfl trivial ?_ rfl
  simp only [Try.ntmps13, List.size_toArray, List.length_cons, List.length_nil, Nat.reduceAdd, Nat.reduceSub, Array.replicate_succ, Array.replicate_zero, List.push_toArray, List.append_toArray, List.nil_append, List.cons_append]
  gi_wp2
  refine ⟨trivial, rfl, (callsIn_wide.2 (HWr.out _ c5')).mono ?_⟩
  rintro e w2 ⟨rfl, hb2⟩
  have hB2 := (alloc_below w (.cells #[.int .i64 x0, .int .i64 x1, .int .i64 x2, .slice a L c, .int .i64 x4, .int .i64 x5, .int .u8 (x6 : Int)] 33)).trans (hb2.mono (by simp))
  have hop2 : w2.heap[w.heap.size]? = some (.cells #[.int .i64 x0, .int .i64 x1, .int .i64 x2, .slice a L c, .int .i64 x4, .int .i64 x5, .int .u8 (x6 : Int)] 33) := (hb2.block _ (by simp)).trans (World.alloc_heap_new w _)
  have c5_2 := kept hB2 c5 zwb
  have c6_2 := kept hB2 c6 zwb
  have f6_2 := (hB2.frozen (p := ⟨wb, 7, none⟩) zwb).trans f6
  have kl_2 := kept hB2 klast zkg
  obtain ⟨hb, hhb⟩ : ∃ b, w.heap.size = b := ⟨_, rfl⟩
  rw [hhb] at hop2 ⊢
  have hs2 : hb < w2.heap.size := (Array.getElem?_eq_some_iff.1 hop2).1
  have HB2 := Lib.hid hB2
  have HHb := Lib.hid hhb
  have zwb2 : wb < w2.heap.size := by omega
  have zkg2 : kg < w2.heap.size := by omega
  have hwh : wb ≠ hb := by omega
  have HLast := Lib.hid hlast
  clear hm1 c5' c5 c6 f6 klast hb2 hB2 hhb zwb zkg hlast
  gi_wp2
  refine wpIn_region_DN (S := (fun W' : World => Below w2.heap.size w2 W')) (fun _ => true) (by kernel_rfl) (Below.refl _ _).drew (fun hHeld => ?_)
  simp only [List.size_toArray, List.length_cons, List.length_nil, Nat.reduceAdd, Array.replicate_succ, Array.replicate_zero, List.push_toArray, List.append_toArray, List.nil_append, List.cons_append]
  refine WDI_free (i := 0) (oi := _) (v := ?_) rfl (by kernel_rfl) (fun _ _ _ h => h) (Or.inl ⟨by rfl, ?_⟩) (fun _ => by rfl) ?_
  rotate_left
  · (intro W' hS; (try dsimp only at hS); clear hS; go_simp; with_reducible rfl)
  try simp only [Act.put, List.getElem_toArray, List.getElem_cons_succ, List.getElem_cons_zero, List.setIfInBounds_toArray, List.set_cons_zero, List.set_cons_succ]
  refine WDI_free (i := 1) (oi := _) (v := ?_) rfl (by kernel_rfl) (fun _ _ _ h => h) (Or.inl ⟨by rfl, ?_⟩) (fun _ => by rfl) ?_
  rotate_left
  · (intro W' hS; (try dsimp only at hS); clear hS; go_simp; with_reducible rfl)
  try simp only [Act.put, List.getElem_toArray, List.getElem_cons_succ, List.getElem_cons_zero, List.setIfInBounds_toArray, List.set_cons_zero, List.set_cons_succ]
  refine WDI_free (i := 2) (oi := _) (v := ?_) rfl (by kernel_rfl) (fun _ _ _ h => h) (Or.inl ⟨by rfl, ?_⟩) (fun _ => by rfl) ?_
  rotate_left
  · (intro W' hS; (try dsimp only at hS); clear hS; go_simp; with_reducible rfl)
  try simp only [Act.put, List.getElem_toArray, List.getElem_cons_succ, List.getElem_cons_zero, List.setIfInBounds_toArray, List.set_cons_zero, List.set_cons_succ]
  refine WDI_take (i := 3) (oi := _) (v := ?_) rfl (by kernel_rfl) (fun _ _ _ h => h) (Or.inl ⟨by rfl, ?_⟩) (fun _ => by rfl) (by assumption) ?_
  rotate_left
  · (intro W' hS; (try dsimp only at hS); have kk := (hS.cell (p := ⟨wb, 5, none⟩) zwb2).trans c5_2; clear hS; go_simp; with_reducible rfl)
  try simp only [Act.put, List.getElem_toArray, List.getElem_cons_succ, List.getElem_cons_zero, List.setIfInBounds_toArray, List.set_cons_zero, List.set_cons_succ]
  refine WDI_free (i := 4) (oi := _) (v := ?_) rfl (by kernel_rfl) (fun _ _ _ h => h) (Or.inl ⟨by rfl, ?_⟩) (fun _ => by rfl) ?_
  rotate_left
  · (intro W' hS; (try dsimp only at hS); clear hS; go_simp; with_reducible rfl)
  try simp only [Act.put, List.getElem_toArray, List.getElem_cons_succ, List.getElem_cons_zero, List.setIfInBounds_toArray, List.set_cons_zero, List.set_cons_succ]
  refine WDI_free (i := 5) (oi := _) (v := ?_) rfl (by kernel_rfl) (fun _ _ _ h => h) (Or.inl ⟨by rfl, ?_⟩) (fun _ => by rfl) ?_
  rotate_left
  · (intro W' hS; (try dsimp only at hS); clear hS; go_simp; with_reducible rfl)
  try simp only [Act.put, List.getElem_toArray, List.getElem_cons_succ, List.getElem_cons_zero, List.setIfInBounds_toArray, List.set_cons_zero, List.set_cons_succ]
  refine WDI_free (i := 6) (oi := _) (v := ?_) rfl (by kernel_rfl) (fun _ _ _ h => h) (Or.inl ⟨by rfl, ?_⟩) (fun _ => by rfl) ?_
  rotate_left
  · (intro W' hS; (try dsimp only at hS); clear hS; go_simp; with_reducible rfl)
  try simp only [Act.put, List.getElem_toArray, List.getElem_cons_succ, List.getElem_cons_zero, List.setIfInBounds_toArray, List.set_cons_zero, List.set_cons_succ]
  refine WDI_take (i := 7) (oi := _) (v := ?_) rfl (by kernel_rfl) (fun _ _ _ h => h) (Or.inl ⟨by rfl, ?_⟩) (fun _ => by rfl) (by assumption) ?_
  rotate_left
  · (intro W' hS; (try dsimp only at hS); have kk := (hS.cell (p := ⟨wb, 5, none⟩) zwb2).trans c5_2; clear hS; go_simp; with_reducible rfl)
  try simp only [Act.put, List.getElem_toArray, List.getElem_cons_succ, List.getElem_cons_zero, List.setIfInBounds_toArray, List.set_cons_zero, List.set_cons_succ]
  refine WDI_free (i := 8) (oi := _) (v := ?_) rfl (by kernel_rfl) (fun _ _ _ h => h) (Or.inl ⟨by rfl, ?_⟩) (fun _ => by rfl) ?_
  rotate_left
  · (intro W' hS; (try dsimp only at hS); clear hS; go_simp; with_reducible rfl)
  try simp only [Act.put, List.getElem_toArray, List.getElem_cons_succ, List.getElem_cons_zero, List.setIfInBounds_toArray, List.set_cons_zero, List.set_cons_succ]
  refine WDI_free (i := 9) (oi := _) (v := ?_) rfl (by kernel_rfl) (fun _ _ _ h => h) (Or.inl ⟨by rfl, ?_⟩) (fun _ => by rfl) ?_
  rotate_left
  · (intro W' hS; (try dsimp only at hS); clear hS; go_simp; with_reducible rfl)
  try simp only [Act.put, List.getElem_toArray, List.getElem_cons_succ, List.getElem_cons_zero, List.setIfInBounds_toArray, List.set_cons_zero, List.set_cons_succ]
  refine WDI_free (i := 10) (oi := _) (v := ?_) rfl (by kernel_rfl) (fun _ _ _ h => h) (Or.inl ⟨by rfl, ?_⟩) (fun _ => by rfl) ?_
  rotate_left
  · (intro W' hS; (try dsimp only at hS); clear hS; go_simp; with_reducible rfl)
  try simp only [Act.put, List.getElem_toArray, List.getElem_cons_succ, List.getElem_cons_zero, List.setIfInBounds_toArray, List.set_cons_zero, List.set_cons_succ]
  refine WDI_take (i := 11) (oi := _) (v := ?_) rfl (by kernel_rfl) (fun _ _ _ h => h) (Or.inl ⟨by rfl, ?_⟩) (fun _ => by rfl) (by assumption) ?_
  rotate_left
  · (intro W' hS; (try dsimp only at hS); have kk := (hS.cell (p := ⟨kg, m, none⟩) zkg2).trans kl_2; clear hS; go_simp; with_reducible rfl)
  try simp only [Act.put, List.getElem_toArray, List.getElem_cons_succ, List.getElem_cons_zero, List.setIfInBounds_toArray, List.set_cons_zero, List.set_cons_succ]
  refine WDI_free (i := 12) (oi := _) (v := ?_) rfl (by kernel_rfl) (fun _ _ _ h => h) (Or.inl ⟨by rfl, ?_⟩) (fun _ => by rfl) ?_
  rotate_left
  · (intro W' hS; (try dsimp only at hS); clear hS; go_simp; with_reducible rfl)
  try simp only [Act.put, List.getElem_toArray, List.getElem_cons_succ, List.getElem_cons_zero, List.setIfInBounds_toArray, List.set_cons_zero, List.set_cons_succ]
  refine WDI_done (by kernel_rfl) ?_ _
  dsimp only [normOnly, Exit.then]
  gi_wp2
  obtain ⟨sb, hsb⟩ : ∃ b, w2.heap.size = b := ⟨_, rfl⟩
  have f1 := sent_world (w2.setCell ⟨wb, 7, none⟩ (.int .i64 ((hm : Int) + 1))) (.cells #[.slice none 0 0, .int .i64 (cn : Int)] 66) (.cells #[.pointer (some ⟨sb, 0, none⟩)] 64)
  rw [setCell_size, hsb] at f1
  rw [hsb] at hs2 zwb2 zkg2 ⊢
  have f2 : Below w.heap.size (w.setCell ⟨wb, 7, none⟩ (.int .i64 ((hm + 1 : Nat) : Int))) (w2.setCell ⟨wb, 7, none⟩ (.int .i64 ((hm : Int) + 1))) := below_set2 HB2.out _ _
  have f3 : RowB (w2.setCell ⟨wb, 7, none⟩ (.int .i64 ((hm : Int) + 1))) a c h.body := rowB_set (HB.out.below HB2.out (Nat.le_refl _)) c6_2 _
  have f4 : ∀ (j x : Nat), ks[j]? = some x → (w2.setCell ⟨wb, 7, none⟩ (.int .i64 ((hm : Int) + 1))).cell? ⟨kg, j, none⟩ = some (.int .i64 (x : Int)) := fun j x hx => by
    have q := HXs.out j x hx
    rw [World.cell?_setCell_far _ _ _ _ (show (⟨wb, 7, none⟩ : Addr).block ≠ (⟨kg, j, none⟩ : Addr).block from fun e => hne e.symm)]
    exact (HB2.out.cell (p := ⟨kg, j, none⟩) (World.block_lt_of_cell? _ _ q)).trans q
  have f5 : (w2.setCell ⟨wb, 7, none⟩ (.int .i64 ((hm : Int) + 1))).cell? ⟨wb, 5, none⟩ = some (.slice (some ⟨kg, 0, none⟩) n kc) := (sset_other (by decide)).trans c5_2
  have f6 : (w2.setCell ⟨wb, 7, none⟩ (.int .i64 ((hm : Int) + 1))).heap[hb]? = _ := (Below.heap_setCell _ _ _ _ (show hb ≠ wb from fun e => hwh e.symm)).trans hop2
  generalize (((w2.setCell ⟨wb, 7, none⟩ (.int .i64 ((hm : Int) + 1))).alloc (.cells #[.slice none 0 0, .int .i64 (cn : Int)] 66)).alloc (.cells #[.pointer (some ⟨sb, 0, none⟩)] 64)).drew = W6 at f1 ⊢
  obtain ⟨s6, box6, t86, hB6⟩ := f1
  have hsz : w.heap.size ≤ sb := by rw [← hsb]; exact HB2.out.size
  have HF := Lib.hid (f2.trans (hB6.mono hsz))
  have z0 : (w2.setCell ⟨wb, 7, none⟩ (.int .i64 ((hm : Int) + 1))).heap.size = sb := by rw [setCell_size]; exact hsb
  have HRow := Lib.hid (f3.below hB6 (Nat.le_of_eq z0))
  have HXs6 : Hid (∀ (j x : Nat), ks[j]? = some x → W6.cell? ⟨kg, j, none⟩ = some (.int .i64 (x : Int))) := Lib.hid fun j x hx => by
    have q := f4 j x hx
    exact (hB6.cell (p := ⟨kg, j, none⟩) (by rw [← z0]; exact World.block_lt_of_cell? _ _ q)).trans q
  have c5_6 := (hB6.cell (p := ⟨wb, 5, none⟩) zwb2).trans f5
  have hop6 := (hB6.block hb hs2).trans f6
  have t6 : W6.cell? ⟨sb + 1, 0, none⟩ = some (.pointer (some ⟨sb, 0, none⟩)) := by simp [World.cell?, t86]
  have b61 : W6.cell? ⟨sb, 1, none⟩ = some (.int .i64 (cn : Int)) := by simp [World.cell?, box6]
  have b60 : W6.cell? ⟨sb, 0, none⟩ = some (.slice none 0 0) := by simp [World.cell?, box6]
  have fb60 : W6.frozen? ⟨sb, 0, none⟩ = false := by simp [World.frozen?, box6]
  have hc3 := (hop_cells hop6).2.2.2.1
  have zs6 : sb < W6.heap.size := by omega
  have zt6 : sb + 1 < W6.heap.size := by omega
  have zh6 : hb < W6.heap.size := by omega
  have hMk := fun w' (hr : RowB w' a c h.body) => cell_Make last cn a c h.body w' hl16 hcn2 hr n2 HB8.out
  rw [hL] at hMk
  have HMk := Lib.hid hMk
  have HT6 := Lib.hid t86
  have HBox := Lib.hid box6
  clear hMk f2 f3 f4 f5 f6 hB6 z0 t86 box6 c5_2 c6_2 f6_2 kl_2 hop2 HB2 HB hsb HWr HXs hn1 hmn hwm hHeld
  clear w2
  refine wpIn_region_DN (S := (fun W' : World => Below W6.heap.size W6 W')) (fun j => j != 14) (by kernel_rfl) (Below.refl _ _).drew (fun hHeld => ?_)
  simp only [List.size_toArray, List.length_cons, List.length_nil, Nat.reduceAdd, Array.replicate_succ, Array.replicate_zero, List.push_toArray, List.append_toArray, List.nil_append, List.cons_append]
  refine WDI_take (i := 0) (oi := _) (v := ?_) rfl (by kernel_rfl) (fun _ _ _ h => h) (Or.inl ⟨by rfl, ?_⟩) (fun _ => by rfl) (by assumption) ?_
  rotate_left
  · (intro W' hS; (try dsimp only at hS); have kk := (hS.cell (p := ⟨sb + 1, 0, none⟩) zt6).trans t6; clear hS; go_simp; with_reducible rfl)
  try simp only [Act.put, List.getElem_toArray, List.getElem_cons_succ, List.getElem_cons_zero, List.setIfInBounds_toArray, List.set_cons_zero, List.set_cons_succ]
  refine WDI_free (i := 1) (oi := _) (v := ?_) rfl (by kernel_rfl) (fun _ _ _ h => h) (Or.inl ⟨by rfl, ?_⟩) (fun _ => by rfl) ?_
  rotate_left
  · (intro W' hS; (try dsimp only at hS); clear hS; go_simp; with_reducible rfl)
  try simp only [Act.put, List.getElem_toArray, List.getElem_cons_succ, List.getElem_cons_zero, List.setIfInBounds_toArray, List.set_cons_zero, List.set_cons_succ]
  refine WDI_take (i := 2) (oi := _) (v := ?_) rfl (by kernel_rfl) (fun _ _ _ h => h) (Or.inl ⟨by rfl, ?_⟩) (fun _ => by rfl) (by assumption) ?_
  rotate_left
  · (intro W' hS; (try dsimp only at hS); have kk := (hS.cell (p := ⟨sb + 1, 0, none⟩) zt6).trans t6; clear hS; go_simp; with_reducible rfl)
  try simp only [Act.put, List.getElem_toArray, List.getElem_cons_succ, List.getElem_cons_zero, List.setIfInBounds_toArray, List.set_cons_zero, List.set_cons_succ]
  refine WDI_free (i := 3) (oi := _) (v := ?_) rfl (by kernel_rfl) (fun _ _ _ h => h) (Or.inl ⟨by rfl, ?_⟩) (fun _ => by rfl) ?_
  rotate_left
  · (intro W' hS; (try dsimp only at hS); clear hS; go_simp; with_reducible rfl)
  try simp only [Act.put, List.getElem_toArray, List.getElem_cons_succ, List.getElem_cons_zero, List.setIfInBounds_toArray, List.set_cons_zero, List.set_cons_succ]
  refine WDI_free (i := 4) (oi := _) (v := ?_) rfl (by kernel_rfl) (fun _ _ _ h => h) (Or.inl ⟨by rfl, ?_⟩) (fun _ => by rfl) ?_
  rotate_left
  · (intro W' hS; (try dsimp only at hS); clear hS; go_simp; with_reducible rfl)
  try simp only [Act.put, List.getElem_toArray, List.getElem_cons_succ, List.getElem_cons_zero, List.setIfInBounds_toArray, List.set_cons_zero, List.set_cons_succ]
  refine WDI_take (i := 5) (oi := _) (v := ?_) rfl (by kernel_rfl) (fun _ _ _ h => h) (Or.inl ⟨by rfl, ?_⟩) (fun _ => by rfl) (by assumption) ?_
  rotate_left
  · (intro W' hS; (try dsimp only at hS); have kk := (hS.cell (p := ⟨sb, 1, none⟩) zs6).trans b61; clear hS; go_simp; with_reducible rfl)
  try simp only [Act.put, List.getElem_toArray, List.getElem_cons_succ, List.getElem_cons_zero, List.setIfInBounds_toArray, List.set_cons_zero, List.set_cons_succ]
  refine WDI_free (i := 6) (oi := _) (v := ?_) rfl (by kernel_rfl) (fun _ _ _ h => h) (Or.inl ⟨by rfl, ?_⟩) (fun _ => by rfl) ?_
  rotate_left
  · (intro W' hS; (try dsimp only at hS); clear hS; go_simp; with_reducible rfl)
  try simp only [Act.put, List.getElem_toArray, List.getElem_cons_succ, List.getElem_cons_zero, List.setIfInBounds_toArray, List.set_cons_zero, List.set_cons_succ]
  refine WDI_take (i := 7) (oi := _) (v := ?_) rfl (by kernel_rfl) (fun _ _ _ h => h) (Or.inl ⟨by rfl, ?_⟩) (fun _ => by rfl) (by assumption) ?_
  rotate_left
  · (intro W' hS; (try dsimp only at hS); have kk := (hS.cell (p := ⟨hb, 3, none⟩) zh6).trans hc3; clear hS; go_simp; with_reducible rfl)
  try simp only [Act.put, List.getElem_toArray, List.getElem_cons_succ, List.getElem_cons_zero, List.setIfInBounds_toArray, List.set_cons_zero, List.set_cons_succ]
  refine WDI_step (i := 8) (o := _) rfl (by kernel_rfl) (fun K hK => ?_)
  rw [if_pos (by rfl)]
  unfold Oper.wpIn
  refine ⟨(fun _ _ => trivial), ?_⟩
  rw [Oper.semAt_eq _ _ _ (fun c h => by cases h)]
  go_simp
  refine ⟨rfl, (callsIn_wide.2 (HMk.out _ (HRow.out.below hHeld (Nat.le_refl _)))).mono ?_⟩
  rintro e w6 ⟨v6, rfl, hb6, hown6⟩
  obtain ⟨g6, k6, rfl, hg6, _, hk6, hk6'⟩ := own_shape hown6 (by decide)
  go_simp
  replace hHeld := below_two hHeld hb6
  refine hK.out _ _ (fun _ _ => hHeld) ?_
  clear hK K
  try simp only [Act.put, List.getElem_toArray, List.getElem_cons_succ, List.getElem_cons_zero, List.setIfInBounds_toArray, List.set_cons_zero, List.set_cons_succ]
  refine WDI_free (i := 9) (oi := _) (v := ?_) rfl (by kernel_rfl) (fun _ _ _ h => h) (Or.inl ⟨by rfl, ?_⟩) (fun _ => by rfl) ?_
  rotate_left
  · (intro W' hS; (try dsimp only at hS); clear hS; go_simp; with_reducible rfl)
  try simp only [Act.put, List.getElem_toArray, List.getElem_cons_succ, List.getElem_cons_zero, List.setIfInBounds_toArray, List.set_cons_zero, List.set_cons_succ]
  refine WDI_free (i := 10) (oi := _) (v := ?_) rfl (by kernel_rfl) (fun _ _ _ h => h) (Or.inl ⟨by rfl, ?_⟩) (fun _ => by rfl) ?_
  rotate_left
  · (intro W' hS; (try dsimp only at hS); clear hS; go_simp; with_reducible rfl)
  try simp only [Act.put, List.getElem_toArray, List.getElem_cons_succ, List.getElem_cons_zero, List.setIfInBounds_toArray, List.set_cons_zero, List.set_cons_succ]
  refine WDI_free (i := 11) (oi := _) (v := ?_) rfl (by kernel_rfl) (fun _ _ _ h => h) (Or.inl ⟨by rfl, ?_⟩) (fun _ => by rfl) ?_
  rotate_left
  · (intro W' hS; (try dsimp only at hS); clear hS; go_simp; with_reducible rfl)
  try simp only [Act.put, List.getElem_toArray, List.getElem_cons_succ, List.getElem_cons_zero, List.setIfInBounds_toArray, List.set_cons_zero, List.set_cons_succ]
  refine WDI_free (i := 12) (oi := _) (v := ?_) rfl (by kernel_rfl) (fun _ _ _ h => h) (Or.inl ⟨by rfl, ?_⟩) (fun _ => by rfl) ?_
  rotate_left
  · (intro W' hS; (try dsimp only at hS); clear hS; go_simp; with_reducible rfl)
  try simp only [Act.put, List.getElem_toArray, List.getElem_cons_succ, List.getElem_cons_zero, List.setIfInBounds_toArray, List.set_cons_zero, List.set_cons_succ]
  refine WDI_free (i := 13) (oi := _) (v := ?_) rfl (by kernel_rfl) (fun _ _ _ h => h) (Or.inl ⟨by rfl, ?_⟩) (fun _ => by rfl) ?_
  rotate_left
  · (intro W' hS; (try dsimp only at hS); clear hS; go_simp; with_reducible rfl)
  try simp only [Act.put, List.getElem_toArray, List.getElem_cons_succ, List.getElem_cons_zero, List.setIfInBounds_toArray, List.set_cons_zero, List.set_cons_succ]
  refine WDI_step (i := 14) (o := _) rfl (by kernel_rfl) (fun K hK => ?_)
  rw [if_pos (by rfl)]
  unfold Oper.wpIn
  refine ⟨(fun _ h => by first | trivial | cases h), ?_⟩
  rw [Oper.semAt_eq _ _ _ (fun c h => by cases h)]
  have b60' := (hHeld.cell (p := ⟨sb, 0, none⟩) zs6).trans b60
  have fb60' := (hHeld.frozen (p := ⟨sb, 0, none⟩) zs6).trans fb60
  go_simp
  refine hK.out _ _ (fun h => by cases h) ?_
  clear hK K
  try simp only [Act.put, List.getElem_toArray, List.getElem_cons_succ, List.getElem_cons_zero, List.setIfInBounds_toArray, List.set_cons_zero, List.set_cons_succ]
  refine WDI_done (by kernel_rfl) ?_ _
  dsimp only [normOnly, Exit.then]
  have g1 : SentAt (w6.setCell ⟨sb, 0, none⟩ (.slice (some ⟨g6, 0, none⟩) 17 k6)) sb W6.heap.size (cellN last cn h.body) cn :=
    ⟨⟨g6, k6, World.cell?_setCell_same' _ _ _ (by simp [(hHeld.cell (p := ⟨sb, 0, none⟩) zs6).trans b60]), sown_far (own_lower hown6 (Nat.le_refl _)) zs6 _⟩, (sset_other (by decide)).trans ((hHeld.cell (p := ⟨sb, 1, none⟩) zs6).trans b61), by rw [World.frozen?_setCell]; exact (hHeld.frozen (p := ⟨sb, 0, none⟩) zs6).trans fb60, ⟨cellN_len n2, cellN_lt n2 HB8.out⟩⟩
  have g2 : Butn sb W6 (w6.setCell ⟨sb, 0, none⟩ (.slice (some ⟨g6, 0, none⟩) 17 k6)) :=
    ⟨(hHeld.mono (Nat.le_of_lt zs6)).setCell (p := ⟨sb, 0, none⟩) (Nat.le_refl _) _, fun j hj hn => by
      rw [Below.heap_setCell _ _ _ _ (show j ≠ (⟨sb, 0, none⟩ : Addr).block from hn)]; exact hHeld.block j hj⟩
  generalize w6.setCell ⟨sb, 0, none⟩ (.slice (some ⟨g6, 0, none⟩) 17 k6) = W7 at g1 g2 ⊢
  have HG1 := Lib.hid g1
  have HG2 := Lib.hid g2
  have c5_7 := g2.cell c5_6 (show wb ≠ sb by omega)
  have z7 := g2.bel.size
  clear g1 g2 hHeld hb6 hown6 hg6 hk6 hk6' b60' fb60' b61 b60 fb60 hc3 HMk
  gi_wp2
  refine ⟨trivial, rfl, (callsIn_wide.2 (keys_Backward _ _ _ _)).mono ?_⟩
  rintro e w8 ⟨rfl, hw8⟩
  obtain ⟨B, hB⟩ : ∃ B, W7.heap.size = B := ⟨_, rfl⟩
  have bx8 : Boxed w8 B 42 (.slice (some ⟨kg, 0, none⟩) n kc) := by rw [hw8, ← hB]; exact Boxed.new _ _ _
  have q1 : SentAt w8 sb W6.heap.size (cellN last cn h.body) cn := by rw [hw8]; exact HG1.out.keep (alloc_below _ _)
  have q2 : Butn sb W6 w8 := by rw [hw8]; exact HG2.out.alloc zs6 _
  have zs8 : sb < w8.heap.size := q1.lt
  have z8 := q2.bel.size
  have hBs : B ≠ sb := by omega
  have t8 := q2.cell t6 (show sb + 1 ≠ sb by omega)
  have c5_8 := q2.cell c5_6 (show wb ≠ sb by omega)
  have HX8 : Hid (∀ (j x : Nat), ks[j]? = some x → w8.cell? ⟨kg, j, none⟩ = some (.int .i64 (x : Int))) := Lib.hid fun j x hx => q2.cell (HXs6.out j x hx) (by omega)
  have HQ1 := Lib.hid q1
  have HQ2 := Lib.hid q2
  have HBx := Lib.hid bx8
  have HHop6 := Lib.hid hop6
  have HT6' := Lib.hid t6
  rw [hB]
  clear q1 q2 hw8 hB bx8 HG1 HG2 c5_7 z7 c5_6 hop6 HT6 HBox HRow t6
  gi_wp2
  refine wp_range_capsE (gf := 41) (encs := encK ks) (R := fun W => Boxed W B 42 (.slice (some ⟨kg, 0, none⟩) n kc) ∧ ∀ (j : Nat) (x : Nat), ks[j]? = some x → W.cell? ⟨kg, j, none⟩ = some (.int .i64 (x : Int))) rfl (enters_of Try.func41 (by kernel_rfl) rfl) (back_keys kg kc B ks n HN.out (by omega)) (fun _ => rfl)
    (fun pre W => ∃ K, pre.length + K = n ∧ SentAt W sb W6.heap.size (homeF h cn K (ks.drop K) (cellN last cn h.body)) cn ∧ Butn sb w8 W)
    (fun pre W => False) ?sal ?spu (fun _ _ _ _ _ _ _ _ h => h) ?hR ?sdr ?i0 ?round ?done (fun _ _ _ _ h => h.elim)
  case sal => exact fun pre W x ⟨K, h1, h2, h3⟩ => ⟨K, h1, h2.keep (alloc_below _ _), h3.alloc zs8 x⟩
  case spu => exact fun pre W k x y hk hy hc ⟨K, h1, h2, h3⟩ => ⟨K, h1, h2.put (by omega) hy hc x, h3.put zs8 hk x⟩
  case hR => exact fun pre W ⟨K, h1, h2, h3⟩ => ⟨(h3.block B HBx.out.lt hBs).trans HBx.out, fun j x hx => h3.cell (HX8.out j x hx) (by omega)⟩
  case sdr => exact fun pre W ⟨K, h1, ⟨r0, r1, r2, r3⟩, ⟨s1, s2⟩⟩ => ⟨K, h1, ⟨r0, r1, r2, r3⟩, ⟨s1.drew, s2⟩⟩
  case i0 => exact ⟨n, by simp, by rw [List.drop_of_length_le (by rw [HN.out]; exact Nat.le_refl _)]; exact HQ1.out, Butn.refl _ _⟩
  case round =>
    rintro l pre k W ⟨K, hK, hS, hBn⟩ hpre
    have hl := rev_len hpre
    obtain rfl : K = k + 1 := by omega
    obtain ⟨x, hx⟩ : ∃ x, ks[k]? = some x := ⟨_, List.getElem?_eq_getElem (by rw [HN.out]; omega)⟩
    have hgd : ks.getD k 0 = x := by rw [List.getD_eq_getElem?_getD, hx]; rfl
    have hx16 := H5.out x (List.mem_of_getElem? hx)
    have HLy := Lib.hid (sent_layer x sb W6.heap.size cn _ W hS hx16 hcn2)
    have HE : Hid (homeF h cn k (ks.drop k) (cellN last cn h.body) = passF h k (layN x cn (homeF h cn (k + 1) (ks.drop (k + 1)) (cellN last cn h.body)))) := Lib.hid (by rw [drop_at hx]; rfl)
    have tW := hBn.cell t8 (show sb + 1 ≠ sb by omega)
    have zsW : sb < W.heap.size := hS.lt
    have hop8W := (hBn.block hb (by omega) (by omega)).trans ((HQ2.out.block hb zh6 (by omega)).trans HHop6.out)
    have HHopW := Lib.hid hop8W
    have HBn := Lib.hid hBn
    have HLe : Hid (W6.heap.size ≤ W.heap.size) := Lib.hid (Nat.le_trans z8 hBn.bel.size)
    have HPre : Hid ((pre ++ [k]).length + k = n) := Lib.hid (by simp; omega)
    have HtW := Lib.hid tW
    have zhW : hb < W.heap.size := by omega
    clear hS hBn hK hl hx hpre t8 c5_8 hop8W
    apply Exists.intro
    refine ⟨?_, ?_⟩
    · intro W' K' hK'
      have HK' := Lib.hid hK'
      clear hK'
      dsimp only [encK]
      rw [hgd]
      gi_wp2
      exact HK'.out
    · gi_wp2
      refine ⟨trivial, rfl, (CallsIn.inRound l (callsIn_wide.2 HLy.out)).mono ?_⟩
      rintro e w1 ⟨rfl, hS1, hB1⟩
      have tW1 := hB1.n.cell HtW.out (show sb + 1 ≠ sb by omega)
      obtain ⟨p0, p1, p2, p3, p4, p5, p6⟩ := hop_cells ((hB1.block hb zhW (by omega)).trans HHopW.out)
      have hpp := sent_pass k sb W.heap.size cn _ h a c w1 hS1 HT8.out HA3.out zsW hB1.bel.size
      rw [HHc.out] at hpp
      have HPp := Lib.hid hpp
      have HB1 := Lib.hid hB1
      clear hS1 hB1 hpp tW
      gi_wp2
      refine ⟨trivial, rfl, (CallsIn.inRound l (callsIn_wide.2 HPp.out)).mono ?_⟩
      rintro e w3 ⟨rfl, hS3, hB3, hK3⟩
      have HS3 := Lib.hid hS3
      have HB3 := Lib.hid (HB1.out.n.below hB3 (Nat.le_refl _) zsW)
      have HK3 := Lib.hid (HB1.out.ko.trans hK3)
      clear hS3 hB3 hK3 p0 p1 p2 p3 p4 p5 p6 tW1 HPp
      gi_wp2
      exact ⟨HK3.out, k, HPre.out, by rw [HE.out]; exact HS3.out.lower HLe.out, HBn.out.trans HB3.out⟩
  case done =>
    rintro D W ⟨K, hK, hS, hBn⟩ hD hDs
    obtain rfl : K = 0 := by simp at hK; omega
    rw [List.drop_zero] at hS
    have HS := Lib.hid hS
    have HBn := Lib.hid hBn
    have HDs := Lib.hid hDs
    have HD := Lib.hid hD
    have c5W := hBn.cell c5_8 (show wb ≠ sb by omega)
    clear hS hBn hDs hD hK c5_8
    gi_wp2
    clear t8 c5W
    gi_loopw [78] (fun s wr => ∃ (i : Nat) (xs : List Nat), s = .int .i64 (i : Int) ∧ i ≤ n ∧ offF cn (ks.drop i) xs = FF ∧ SentAt wr sb W6.heap.size xs cn ∧ Butn sb W6 wr ∧ KeepsOthers W wr) (fun s _ => n - (intOf s).toNat)
    case atStart => exact ⟨0, _, rfl, Nat.zero_le _, by rw [List.drop_zero]; exact HFF.out, HS.out, HQ2.out.trans HBn.out, KeepsOthers.refl _⟩
    case round =>
      obtain ⟨i, xs, rfl, hi, hF, hS, hB, hKO⟩ := hrel
      have tR := hB.cell HT6'.out (show sb + 1 ≠ sb by omega)
      by_cases hin : i < n
      · obtain ⟨x, hx⟩ : ∃ x, ks[i]? = some x := ⟨_, List.getElem?_eq_getElem (by rw [HN.out]; exact hin)⟩
        have hx16 := H5.out x (List.mem_of_getElem? hx)
        rw [drop_at hx] at hF
        have HF1 : Hid (offF cn (ks.drop (i + 1)) (layN x cn xs) = FF) := Lib.hid hF
        have kx := hB.cell (HXs6.out i x hx) (show kg ≠ sb by omega)
        have hlt : (i : Int) < (n : Int) := by omega
        have HLy := Lib.hid (sent_layer x sb W6.heap.size cn _ wr hS hx16 hcn2)
        have HB := Lib.hid hB
        have HKO := Lib.hid hKO
        clear hF hS hB hKO hx hi hin
        gi_wp2
        refine ⟨trivial, rfl, (callsIn_wide.2 HLy.out).mono ?_⟩
        rintro e w3 ⟨rfl, hS3, hB3⟩
        have HS3 := Lib.hid (hS3.lower HB.out.bel.size)
        have HB3 := Lib.hid (HB.out.trans hB3.n)
        have HK3 := Lib.hid (HKO.out.trans hB3.ko)
        clear hS3 hB3 tR HLy HB HKO
        gi_wp2
        go_roundw
        case rel => exact ⟨i + 1, _, by go_num, by omega, HF1.out, HS3.out, HB3.out, HK3.out⟩
        case measure => simp [intOf]; omega
      · obtain rfl : i = n := by omega
        rw [List.drop_of_length_le (by rw [HN.out]; exact Nat.le_refl _)] at hF
        obtain rfl : xs = FF := hF
        have hnlt : ¬ (i : Int) < (i : Int) := by omega
        obtain ⟨g, cc, c0, hown⟩ := hS.c0
        have hcl := hS.cl
        have hrb : RowB wr (some ⟨g, 0, none⟩) cc xs := by
          have := hown
          rw [← hcl.1] at this
          obtain ⟨a', c', he, hr, _⟩ := own_rowB this
          injection he with e1 e2 e3
          subst e1 e3
          exact hr
        obtain ⟨_, _, _, hcc, _⟩ := own_heap hown
        have c1 := hS.c1
        have zsR : sb < wr.heap.size := hS.lt
        have ztR : sb + 1 < wr.heap.size := World.block_lt_of_cell? _ _ tR
        have HRd := Lib.hid fun w' (hr : RowB w' (some ⟨g, 0, none⟩) cc xs) => read_all last cn g cc xs w' hl16 hcn2 hr hcc hcl
        have HRb := Lib.hid hrb
        have HB := Lib.hid hB
        have HKD : Hid (wr.heap[D]? = some (.deferred (some []))) := Lib.hid (hKO.same D _ HD.out rfl)
        have hDw : w.heap.size ≤ D := by have := HDs.out; omega
        have HL1 : Hid (w.heap.size ≤ wr.heap.size) := Lib.hid (by omega)
        clear hin hi hS hB hKO hrb hown hcl hcc
        gi_wp2
        refine wpIn_region_DN (S := (fun W' : World => Below wr.heap.size wr W')) (fun _ => true) (by kernel_rfl) (Below.refl _ _).drew (fun hHeld => ?_)
        simp only [List.size_toArray, List.length_cons, List.length_nil, Nat.reduceAdd, Array.replicate_succ, Array.replicate_zero, List.push_toArray, List.append_toArray, List.nil_append, List.cons_append]
        refine WDI_free (i := 0) (oi := _) (v := ?_) rfl (by kernel_rfl) (fun _ _ _ h => h) (Or.inl ⟨by rfl, ?_⟩) (fun _ => by rfl) ?_
        rotate_left
        · (intro W' hS; (try dsimp only at hS); clear hS; go_simp; with_reducible rfl)
        try simp only [Act.put, List.getElem_toArray, List.getElem_cons_succ, List.getElem_cons_zero, List.setIfInBounds_toArray, List.set_cons_zero, List.set_cons_succ]
        refine WDI_take (i := 1) (oi := _) (v := ?_) rfl (by kernel_rfl) (fun _ _ _ h => h) (Or.inl ⟨by rfl, ?_⟩) (fun _ => by rfl) (by assumption) ?_
        rotate_left
        · (intro W' hS; (try dsimp only at hS); have kk := (hS.cell (p := ⟨sb + 1, 0, none⟩) ztR).trans tR; clear hS; go_simp; with_reducible rfl)
        try simp only [Act.put, List.getElem_toArray, List.getElem_cons_succ, List.getElem_cons_zero, List.setIfInBounds_toArray, List.set_cons_zero, List.set_cons_succ]
        refine WDI_free (i := 2) (oi := _) (v := ?_) rfl (by kernel_rfl) (fun _ _ _ h => h) (Or.inl ⟨by rfl, ?_⟩) (fun _ => by rfl) ?_
        rotate_left
        · (intro W' hS; (try dsimp only at hS); clear hS; go_simp; with_reducible rfl)
        try simp only [Act.put, List.getElem_toArray, List.getElem_cons_succ, List.getElem_cons_zero, List.setIfInBounds_toArray, List.set_cons_zero, List.set_cons_succ]
        refine WDI_free (i := 3) (oi := _) (v := ?_) rfl (by kernel_rfl) (fun _ _ _ h => h) (Or.inl ⟨by rfl, ?_⟩) (fun _ => by rfl) ?_
        rotate_left
        · (intro W' hS; (try dsimp only at hS); clear hS; go_simp; with_reducible rfl)
        try simp only [Act.put, List.getElem_toArray, List.getElem_cons_succ, List.getElem_cons_zero, List.setIfInBounds_toArray, List.set_cons_zero, List.set_cons_succ]
        refine WDI_take (i := 4) (oi := _) (v := ?_) rfl (by kernel_rfl) (fun _ _ _ h => h) (Or.inl ⟨by rfl, ?_⟩) (fun _ => by rfl) (by assumption) ?_
        rotate_left
        · (intro W' hS; (try dsimp only at hS); have kk := (hS.cell (p := ⟨sb, 1, none⟩) zsR).trans c1; clear hS; go_simp; with_reducible rfl)
        try simp only [Act.put, List.getElem_toArray, List.getElem_cons_succ, List.getElem_cons_zero, List.setIfInBounds_toArray, List.set_cons_zero, List.set_cons_succ]
        refine WDI_take (i := 5) (oi := _) (v := ?_) rfl (by kernel_rfl) (fun _ _ _ h => h) (Or.inl ⟨by rfl, ?_⟩) (fun _ => by rfl) (by assumption) ?_
        rotate_left
        · (intro W' hS; (try dsimp only at hS); have kk := (hS.cell (p := ⟨sb + 1, 0, none⟩) ztR).trans tR; clear hS; go_simp; with_reducible rfl)
        try simp only [Act.put, List.getElem_toArray, List.getElem_cons_succ, List.getElem_cons_zero, List.setIfInBounds_toArray, List.set_cons_zero, List.set_cons_succ]
        refine WDI_free (i := 6) (oi := _) (v := ?_) rfl (by kernel_rfl) (fun _ _ _ h => h) (Or.inl ⟨by rfl, ?_⟩) (fun _ => by rfl) ?_
        rotate_left
        · (intro W' hS; (try dsimp only at hS); clear hS; go_simp; with_reducible rfl)
        try simp only [Act.put, List.getElem_toArray, List.getElem_cons_succ, List.getElem_cons_zero, List.setIfInBounds_toArray, List.set_cons_zero, List.set_cons_succ]
        refine WDI_free (i := 7) (oi := _) (v := ?_) rfl (by kernel_rfl) (fun _ _ _ h => h) (Or.inl ⟨by rfl, ?_⟩) (fun _ => by rfl) ?_
        rotate_left
        · (intro W' hS; (try dsimp only at hS); clear hS; go_simp; with_reducible rfl)
        try simp only [Act.put, List.getElem_toArray, List.getElem_cons_succ, List.getElem_cons_zero, List.setIfInBounds_toArray, List.set_cons_zero, List.set_cons_succ]
        refine WDI_take (i := 8) (oi := _) (v := ?_) rfl (by kernel_rfl) (fun _ _ _ h => h) (Or.inl ⟨by rfl, ?_⟩) (fun _ => by rfl) (by assumption) ?_
        rotate_left
        · (intro W' hS; (try dsimp only at hS); have kk := (hS.cell (p := ⟨sb, 0, none⟩) zsR).trans c0; clear hS; go_simp; with_reducible rfl)
        try simp only [Act.put, List.getElem_toArray, List.getElem_cons_succ, List.getElem_cons_zero, List.setIfInBounds_toArray, List.set_cons_zero, List.set_cons_succ]
        refine WDI_step (i := 9) (o := _) rfl (by kernel_rfl) (fun K hK => ?_)
        rw [if_pos (by rfl)]
        unfold Oper.wpIn
        refine ⟨(fun _ _ => trivial), ?_⟩
        rw [Oper.semAt_eq _ _ _ (fun c h => by cases h)]
        go_simp
        refine ⟨rfl, (callsIn_wide.2 (HRd.out _ (HRb.out.below hHeld (Nat.le_refl _)))).mono ?_⟩
        rintro e w9 ⟨v9, rfl, hb9, hown9⟩
        go_simp
        replace hHeld := below_two hHeld hb9
        refine hK.out _ _ (fun _ _ => hHeld) ?_
        clear hK K
        try simp only [Act.put, List.getElem_toArray, List.getElem_cons_succ, List.getElem_cons_zero, List.setIfInBounds_toArray, List.set_cons_zero, List.set_cons_succ]
        refine WDI_free (i := 10) (oi := _) (v := ?_) rfl (by kernel_rfl) (fun _ _ _ h => h) (Or.inl ⟨by rfl, ?_⟩) (fun _ => by rfl) ?_
        rotate_left
        · (intro W' hS; (try dsimp only at hS); clear hS; go_simp; with_reducible rfl)
        try simp only [Act.put, List.getElem_toArray, List.getElem_cons_succ, List.getElem_cons_zero, List.setIfInBounds_toArray, List.set_cons_zero, List.set_cons_succ]
        refine WDI_free (i := 11) (oi := _) (v := ?_) rfl (by kernel_rfl) (fun _ _ _ h => h) (Or.inl ⟨by rfl, ?_⟩) (fun _ => by rfl) ?_
        rotate_left
        · (intro W' hS; (try dsimp only at hS); clear hS; go_simp; with_reducible rfl)
        try simp only [Act.put, List.getElem_toArray, List.getElem_cons_succ, List.getElem_cons_zero, List.setIfInBounds_toArray, List.set_cons_zero, List.set_cons_succ]
        refine WDI_free (i := 12) (oi := _) (v := ?_) rfl (by kernel_rfl) (fun _ _ _ h => h) (Or.inl ⟨by rfl, ?_⟩) (fun _ => by rfl) ?_
        rotate_left
        · (intro W' hS; (try dsimp only at hS); clear hS; go_simp; with_reducible rfl)
        try simp only [Act.put, List.getElem_toArray, List.getElem_cons_succ, List.getElem_cons_zero, List.setIfInBounds_toArray, List.set_cons_zero, List.set_cons_succ]
        refine WDI_free (i := 13) (oi := _) (v := ?_) rfl (by kernel_rfl) (fun _ _ _ h => h) (Or.inl ⟨by rfl, ?_⟩) (fun _ => by rfl) ?_
        rotate_left
        · (intro W' hS; (try dsimp only at hS); clear hS; go_simp; with_reducible rfl)
        try simp only [Act.put, List.getElem_toArray, List.getElem_cons_succ, List.getElem_cons_zero, List.setIfInBounds_toArray, List.set_cons_zero, List.set_cons_succ]
        refine WDI_done (by kernel_rfl) ?_ _
        dsimp only [normOnly, Exit.then]
        have HW9 := Lib.hid hHeld
        have HO9 := Lib.hid hown9
        have HK9 : Hid (w9.heap[D]? = some (.deferred (some []))) := Lib.hid ((hHeld.block D (Array.getElem?_eq_some_iff.1 HKD.out).1).trans HKD.out)
        clear hHeld hb9 hown9
        gi_wp2
        refine ⟨by simp, .inl ⟨_, _, rfl, run_takeDeferred HK9.out, ?_⟩⟩
        refine ⟨.tuple #[v9, .int .i64 (readF last cn xs).1], ?_, v9, rfl, ownsRow_putObj (own_lower HO9.out HL1.out) _ HK9.out rfl, below_put ((HF.out.trans (HB.out.bel.mono hsz)).trans (HW9.out.mono HL1.out)) hDw _⟩
        simp [results, Try.f13, go_sem]
end Go.Proofs.Ytkodhpjmmiapaaa

/- (*relay.way).send and answer where something is wrong. -/
namespace Go.Proofs.Ytkodhpjmmiapaaa
open Go.RowKit Go.Shelf
attribute [local go_sem] Oper.semAt_some
set_option linter.unusedVariables false
set_option linter.unusedSimpArgs false
set_option maxRecDepth 20000 in
set_option maxHeartbeats 6400000 in
theorem way_send_no (wb kc n : Nat) (ka : Option Addr) (h : Hp) (a : Option Addr) (c : Nat) (w : World) (c5 : w.cell? ⟨wb, 5, none⟩ = some (.slice ka n kc)) (hwr : ¬ wrongF n h = 0) :
    Calls Try.prog 12 #[.pointer (some ⟨wb, 0, none⟩), .agg (hopC h a c)] w fun e w' =>
      e = .returned (.tuple #[.slice none 0 0, .int .i64 (wrongF n h)]) ∧ Below w.heap.size w w' := by
  have hWr := fun W (h5' : W.cell? ⟨wb, 5, none⟩ = some (.slice ka n kc)) => way_wrong wb n kc ka h a c W h5'
  obtain ⟨e, he⟩ : ∃ e, wrongF n h = e := ⟨_, rfl⟩
  rw [he] at hWr hwr ⊢
  obtain ⟨L, hL⟩ : ∃ L, h.body.length = L := ⟨_, rfl⟩
  obtain ⟨x0, e0⟩ : ∃ x, h.kind = x := ⟨_, rfl⟩
  obtain ⟨x1, e1⟩ : ∃ x, h.k = x := ⟨_, rfl⟩
  obtain ⟨x2, e2⟩ : ∃ x, h.l = x := ⟨_, rfl⟩
  obtain ⟨x4, e4⟩ : ∃ x, h.link = x := ⟨_, rfl⟩
  obtain ⟨x5, e5⟩ : ∃ x, h.at' = x := ⟨_, rfl⟩
  obtain ⟨x6, e6⟩ : ∃ x, h.turn = x := ⟨_, rfl⟩
  have hhc : hopC h a c = #[.int .i64 x0, .int .i64 x1, .int .i64 x2, .slice a L c, .int .i64 x4, .int .i64 x5, .int .u8 (x6 : Int)] := by unfold hopC; rw [e0, e1, e2, e4, e5, e6, hL]
  rw [hhc] at hWr
  rw [hhc]
  have HWr := Lib.hid hWr
  have zwb : wb < w.heap.size := World.block_lt_of_cell? _ _ c5
  have c5' := kept (alloc_below w (.cells #[.int .i64 x0, .int .i64 x1, .int .i64 x2, .slice a L c, .int .i64 x4, .int .i64 x5, .int .u8 (x6 : Int)] 33)) c5 zwb
  have e1' : (e == (0 : Int)) = false := by simpa using hwr
  have e2' : (e != (0 : Int)) = true := by simpa using hwr
  clear he hWr hhc e0 e1 e2 e4 e5 e6 hL hwr c5 h
  refine (callsIn_wide (n := 0)).1 ?_
  refine callsIn_of_wp_marks Try.func12 rfl trivial ?_ rfl
  simp only [Try.ntmps12, List.size_toArray, List.length_cons, List.length_nil, Nat.reduceAdd, Nat.reduceSub, Array.replicate_succ, Array.replicate_zero, List.push_toArray, List.append_toArray, List.nil_append, List.cons_append]
  gi_wp2
  refine ⟨trivial, rfl, (callsIn_wide.2 (HWr.out _ c5')).mono ?_⟩
  rintro e w2 ⟨rfl, hb2⟩
  have hB2 := (alloc_below w (.cells #[.int .i64 x0, .int .i64 x1, .int .i64 x2, .slice a L c, .int .i64 x4, .int .i64 x5, .int .u8 (x6 : Int)] 33)).trans (hb2.mono (by simp))
  have HB2 := Lib.hid hB2
  clear hb2 hB2 c5'
  gi_wp2
  refine ⟨.tuple #[.slice none 0 0, .int .i64 e], ?_, rfl, HB2.out⟩
  simp [results, Try.f12, go_sem]
set_option maxRecDepth 20000 in
set_option maxHeartbeats 6400000 in
theorem way_answer_no (wb kc n : Nat) (ka : Option Addr) (h : Hp) (a : Option Addr) (c : Nat) (w : World) (c5 : w.cell? ⟨wb, 5, none⟩ = some (.slice ka n kc)) (hwr : ¬ wrongF n h = 0) :
    Calls Try.prog 13 #[.pointer (some ⟨wb, 0, none⟩), .agg (hopC h a c)] w fun e w' =>
      e = .returned (.tuple #[.slice none 0 0, .int .i64 (wrongF n h)]) ∧ Below w.heap.size w w' := by
  have hWr := fun W (h5' : W.cell? ⟨wb, 5, none⟩ = some (.slice ka n kc)) => way_wrong wb n kc ka h a c W h5'
  obtain ⟨e, he⟩ : ∃ e, wrongF n h = e := ⟨_, rfl⟩
  rw [he] at hWr hwr ⊢
  obtain ⟨L, hL⟩ : ∃ L, h.body.length = L := ⟨_, rfl⟩
  obtain ⟨x0, e0⟩ : ∃ x, h.kind = x := ⟨_, rfl⟩
  obtain ⟨x1, e1⟩ : ∃ x, h.k = x := ⟨_, rfl⟩
  obtain ⟨x2, e2⟩ : ∃ x, h.l = x := ⟨_, rfl⟩
  obtain ⟨x4, e4⟩ : ∃ x, h.link = x := ⟨_, rfl⟩
  obtain ⟨x5, e5⟩ : ∃ x, h.at' = x := ⟨_, rfl⟩
  obtain ⟨x6, e6⟩ : ∃ x, h.turn = x := ⟨_, rfl⟩
  have hhc : hopC h a c = #[.int .i64 x0, .int .i64 x1, .int .i64 x2, .slice a L c, .int .i64 x4, .int .i64 x5, .int .u8 (x6 : Int)] := by unfold hopC; rw [e0, e1, e2, e4, e5, e6, hL]
  rw [hhc] at hWr
  rw [hhc]
  have HWr := Lib.hid hWr
  have zwb : wb < w.heap.size := World.block_lt_of_cell? _ _ c5
  have c5' := kept (alloc_below w (.cells #[.int .i64 x0, .int .i64 x1, .int .i64 x2, .slice a L c, .int .i64 x4, .int .i64 x5, .int .u8 (x6 : Int)] 33)) c5 zwb
  have e1' : (e == (0 : Int)) = false := by simpa using hwr
  have e2' : (e != (0 : Int)) = true := by simpa using hwr
  clear he hWr hhc e0 e1 e2 e4 e5 e6 hL hwr c5 h
  refine (callsIn_wide (n := 0)).1 ?_
  refine callsIn_of_wp_marks Try.func13 rfl trivial ?_ rfl
  simp only [Try.ntmps13, List.size_toArray, List.length_cons, List.length_nil, Nat.reduceAdd, Nat.reduceSub, Array.replicate_succ, Array.replicate_zero, List.push_toArray, List.append_toArray, List.nil_append, List.cons_append]
  gi_wp2
  refine ⟨trivial, rfl, (callsIn_wide.2 (HWr.out _ c5')).mono ?_⟩
  rintro e w2 ⟨rfl, hb2⟩
  have hB2 := (alloc_below w (.cells #[.int .i64 x0, .int .i64 x1, .int .i64 x2, .slice a L c, .int .i64 x4, .int .i64 x5, .int .u8 (x6 : Int)] 33)).trans (hb2.mono (by simp))
  have HB2 := Lib.hid hB2
  clear hb2 hB2 c5'
  gi_wp2
  refine ⟨.tuple #[.slice none 0 0, .int .i64 e], ?_, rfl, HB2.out⟩
  simp [results, Try.f13, go_sem]
end Go.Proofs.Ytkodhpjmmiapaaa

/- A way's steps as one shape: what each does to a world. -/
namespace Go.Proofs.Ytkodhpjmmiapaaa
open Go.RowKit
set_option linter.unusedVariables false
set_option linter.unusedSimpArgs false
structure WayS (W : World) (wb : Nat) (P Q G H : Int) (sa : Option Addr) (sc : Nat) (S : List Int) (st : St) : Prop where
  way : ∃ kv, WayX W wb P Q G H sa sc S kv st.ks
  t6 : W.cell? ⟨wb, 6, none⟩ = some (.int .i64 (st.th : Int))
  m7 : W.cell? ⟨wb, 7, none⟩ = some (.int .i64 (st.hm : Int))
  fr : ∀ j, W.frozen? ⟨wb, j, none⟩ = false
/-- a world in which but a way and its keys may have changed -/
structure Kp (wb : Nat) (W W' : World) : Prop where
  bel : Below wb W W'
  blk : ∀ (b : Nat) (cur : Array Value) (T : TypeId), b ≠ wb → T ≠ 3 → W.heap[b]? = some (.cells cur T (0, 0)) → W'.heap[b]? = some (.cells cur T (0, 0))
theorem Kp.of {wb : Nat} {W W' : World} (hb : Below W.heap.size W W') (h : wb ≤ W.heap.size) : Kp wb W W' := ⟨hb.mono h, fun b cur T _ _ hx => (hb.block b (Array.getElem?_eq_some_iff.1 hx).1).trans hx⟩
theorem Kp.set {wb j : Nat} {v : Value} {W W' : World} (hb : Below W.heap.size (W.setCell ⟨wb, j, none⟩ v) W') (h : wb ≤ W.heap.size) : Kp wb W W' := by
  have h1 : Below wb W (W.setCell ⟨wb, j, none⟩ v) := (Below.refl wb W).setCell (p := ⟨wb, j, none⟩) (Nat.le_refl _) v
  refine ⟨h1.trans (hb.mono h), fun b cur T hn _ hx => ?_⟩
  rw [hb.block b (Array.getElem?_eq_some_iff.1 hx).1, Below.heap_setCell _ _ _ _ (show b ≠ (⟨wb, j, none⟩ : Addr).block from hn)]
  exact hx
theorem Kp.longer {wb : Nat} {W W' : World} {kv kv' : Value} {ks ks0 : List Nat} (h : Longer wb W W' kv kv' ks) (ho : W.ownsRow (wb + 1) 3 1 kv ks0.length (kvV ks0)) : Kp wb W W' := by
  refine ⟨h.bel, fun b cur T hn hT hx => ?_⟩
  rw [h.blk b (Array.getElem?_eq_some_iff.1 hx).1 hn (fun e => ?_)]
  · exact hx
  · rcases ho.2 with ⟨h1, _⟩ | ⟨g, cap, cu, h1, h2, h3, _⟩
    · rw [h1] at e; cases e
    · rw [h1] at e
      cases e
      rw [hx] at h3
      cases h3
      exact hT rfl
theorem Kp.trans {wb : Nat} {a b c : World} (h : Kp wb a b) (k : Kp wb b c) : Kp wb a c := ⟨h.bel.trans k.bel, fun x cur T hn hT hx => k.blk x cur T hn hT (h.blk x cur T hn hT hx)⟩
theorem Kp.own {wb : Nat} {W W' : World} (h : Kp wb W W') {base size n : Nat} {e : TypeId} {v : Value} {xs : List Value} (ho : W.ownsRow base e size v n xs) (he : e ≠ 3) (hb : wb < base) : W'.ownsRow base e size v n xs := by
  refine ⟨ho.1, ?_⟩
  rcases ho.2 with h0 | ⟨g, cap, cur, hv, hg, h3, rest⟩
  · exact .inl h0
  · exact .inr ⟨g, cap, cur, hv, hg, h.blk g cur e (by omega) he h3, rest⟩
theorem WayS.lt {W : World} {wb : Nat} {P Q G H : Int} {sa : Option Addr} {sc : Nat} {S : List Int} {st : St} (h : WayS W wb P Q G H sa sc S st) : wb < W.heap.size := World.block_lt_of_cell? _ _ h.t6
theorem WayS.below {W W' : World} {wb : Nat} {P Q G H : Int} {sa : Option Addr} {sc : Nat} {S : List Int} {st : St} (h : WayS W wb P Q G H sa sc S st) (hb : Below W.heap.size W W') : WayS W' wb P Q G H sa sc S st := by
  have z := h.lt
  obtain ⟨kv, x⟩ := h.way
  exact ⟨⟨kv, kept hb x.g0 z, kept hb x.g1 z, kept hb x.g2 z, kept hb x.g3 z, kept hb x.c4 z, kept hb x.c5 z, own_keep x.own hb, (hb.frozen (p := ⟨wb, 5, none⟩) z).trans x.f5, x.row.below hb (Nat.le_refl _)⟩, kept hb h.t6 z, kept hb h.m7 z, fun j => (hb.frozen (p := ⟨wb, j, none⟩) z).trans (h.fr j)⟩
/-- behind a store into the way's cell j (6 or 7) -/
theorem wayX_set {W W' : World} {wb j : Nat} {P Q G H : Int} {sa : Option Addr} {sc : Nat} {S : List Int} {kv v : Value} {ks : List Nat} (x : WayX W wb P Q G H sa sc S kv ks) (hj : 6 ≤ j) (hb : Below W.heap.size (W.setCell ⟨wb, j, none⟩ v) W') (hr : RowL W' sa sc S) : WayX W' wb P Q G H sa sc S kv ks := by
  have z : wb < W.heap.size := World.block_lt_of_cell? _ _ x.g0
  have c : ∀ i u, i ≠ j → W.cell? ⟨wb, i, none⟩ = some u → W'.cell? ⟨wb, i, none⟩ = some u := fun i u hi hu => by
    rw [hb.cell (p := ⟨wb, i, none⟩) z, sset_other (fun e => hi e.symm)]
    exact hu
  refine ⟨c _ _ (by omega) x.g0, c _ _ (by omega) x.g1, c _ _ (by omega) x.g2, c _ _ (by omega) x.g3, c _ _ (by omega) x.c4, c _ _ (by omega) x.c5, ?_, ?_, hr⟩
  · exact own_keep (sown_far x.own (show wb < wb + 1 by omega) v) (by rw [setCell_size]; exact hb)
  · rw [hb.frozen (p := ⟨wb, 5, none⟩) z, World.frozen?_setCell]; exact x.f5
def HopPost (wb : Nat) (P Q G H : Int) (sa : Option Addr) (sc : Nat) (S : List Int) (W : World) (r : St × Int × List Nat) (e : Ending) (W' : World) : Prop :=
  ∃ v, e = .returned (.tuple #[v, .int .i64 r.2.1]) ∧ W'.ownsRow W.heap.size 5 1 v r.2.2.length (byV r.2.2) ∧ WayS W' wb P Q G H sa sc S r.1 ∧ Kp wb W W'
section
variable {wb : Nat} {P Q G H : Int} {sa : Option Addr} {sc : Nat} {S : List Int} {W : World} {st : St}
theorem hopPost_no (hw : WayS W wb P Q G H sa sc S st) {c : Int} {e : Ending} {W' : World} (he : e = .returned (.tuple #[.slice none 0 0, .int .i64 c])) (hb : Below W.heap.size W W') : HopPost wb P Q G H sa sc S W (st, c, []) e W' :=
  ⟨_, he, readN_nil_own _ _, hw.below hb, Kp.of hb (Nat.le_of_lt hw.lt)⟩
theorem hop_extend (hw : WayS W wb P Q G H sa sc S st) (hsec : ∀ W', Below wb W W' → RowL W' sa sc S) (hg : grpE P Q G H = 0) (hS : ∀ s ∈ S, 0 ≤ s ∧ s < Q) (hS3 : S.length ≤ 3) (hlen : st.ks.length ≤ S.length) (k l : Int) :
    Calls Try.prog 11 #[.pointer (some ⟨wb, 0, none⟩), .int .i64 k, .int .i64 l] W (HopPost wb P Q G H sa sc S W (extF P Q G S st k l)) := by
  obtain ⟨kv, x⟩ := hw.way
  have hgG := (shE_zero (shE_ok hg (Int.le_refl 0) (by have := (grpE_zero hg).1; unfold GIn at this; omega) (grpE_zero hg).2.2.2.2.1)).2.2.2
  unfold extF
  split
  · exact (extend_full wb P Q G H k l sa sc S kv st.ks W x (by assumption)).mono fun e W' ⟨h1, h2⟩ => hopPost_no hw h1 h2
  · rename_i hne
    obtain ⟨s, hs⟩ : ∃ s, S[st.ks.length]? = some s := ⟨_, List.getElem?_eq_getElem (by omega)⟩
    have hsv := hS s (List.mem_of_getElem? hs)
    have hgd : S.getD st.ks.length 0 = s := by rw [List.getD_eq_getElem?_getD, hs]; rfl
    rw [hgd]
    split
    · rename_i hk
      exact (extend_badk wb P Q G H k l sa sc S kv st.ks W x s hs 2 (shE_bad hg hk) (by decide)).mono fun e W' ⟨h1, h2⟩ => hopPost_no hw h1 h2
    · rename_i hk
      have hk := Classical.not_not.1 hk
      split
      · rename_i hl
        exact (extend_badl wb P Q G H k l sa sc S kv st.ks W x s hs (shE_ok hg hk.1 hk.2 hgG) (shE_ok hg hsv.1 hsv.2 hgG) 2 (shE_bad hg hl) (by decide)).mono fun e W' ⟨h1, h2⟩ => hopPost_no hw h1 h2
      · rename_i hl
        have hl := Classical.not_not.1 hl
        refine (extend_ok wb P Q G H k l sa sc S kv st.ks W x s hs hS3 hg hsv.1 hsv.2 hk.1 hk.2 hl.1 hl.2).mono ?_
        rintro e W' ⟨v, kv', rfl, ho, hL⟩
        have c : ∀ j, j ≠ 5 → ∀ u, W.cell? ⟨wb, j, none⟩ = some u → W'.cell? ⟨wb, j, none⟩ = some u := fun j hj u hu => (hL.cj j hj).trans hu
        exact ⟨v, rfl, ho, ⟨⟨kv', c 0 (by omega) _ x.g0, c 1 (by omega) _ x.g1, c 2 (by omega) _ x.g2, c 3 (by omega) _ x.g3, c 4 (by omega) _ x.c4, hL.c5, hL.own, (hL.fr 5).trans x.f5, hsec _ hL.bel⟩, c 6 (by omega) _ hw.t6, c 7 (by omega) _ hw.m7, fun j => (hL.fr j).trans (hw.fr j)⟩, Kp.longer hL x.own⟩
theorem wayAt_of (hw : WayS W wb P Q G H sa sc S st) (hne : 0 < st.ks.length) : ∃ kg kc, kg ≠ wb ∧ WayAt W wb kg kc st.ks st.th st.hm := by
  obtain ⟨kv, x⟩ := hw.way
  obtain ⟨g, cap, rfl, hg, _, _, _⟩ := own_shape x.own hne
  exact ⟨g, cap, by omega, x.c5, hw.t6, hw.m7, hw.fr, fun j y hy => own_cell x.own (by simp [kvV, hy])⟩
theorem hop_send (hw : WayS W wb P Q G H sa sc S st) (hsec : ∀ W', Below wb W W' → RowL W' sa sc S) (h3 : st.ks.length ≤ 3) (h16 : ∀ k ∈ st.ks, k < 65536) (hth : st.th ≤ 1000) (h : Hp) (a : Option Addr) (c : Nat) (hb : RowB W a c h.body) (hb8 : ∀ x ∈ h.body, x < 256) (ht8 : h.turn < 256) :
    Calls Try.prog 12 #[.pointer (some ⟨wb, 0, none⟩), .agg (hopC h a c)] W (HopPost wb P Q G H sa sc S W (sndF st h)) := by
  unfold sndF
  split
  · rename_i hwr
    obtain ⟨kg, kc, hne, hat⟩ := wayAt_of hw (wrong_le hwr).1
    refine (way_send wb kg kc st.ks st.th st.hm h a c W hat hne h3 h16 hth hb hb8 ht8 hwr).mono ?_
    rintro e W' ⟨v, rfl, ho, hB⟩
    have z := hw.lt
    obtain ⟨kv, x⟩ := hw.way
    have hK : Kp wb W W' := Kp.set hB (Nat.le_of_lt z)
    refine ⟨v, rfl, ho, ⟨⟨kv, wayX_set x (by omega) hB (hsec _ hK.bel)⟩, ?_, ?_, fun j => ?_⟩, hK⟩
    · rw [hB.cell (p := ⟨wb, 6, none⟩) z]; exact World.cell?_setCell_same' _ _ _ (by simp [hw.t6])
    · rw [hB.cell (p := ⟨wb, 7, none⟩) z, sset_other (by omega)]; exact hw.m7
    · rw [hB.frozen (p := ⟨wb, j, none⟩) z, World.frozen?_setCell]; exact hw.fr j
  · rename_i hwr
    obtain ⟨kv, x⟩ := hw.way
    obtain ⟨ka, kc, rfl, _⟩ := own_any x.own
    exact (way_send_no wb kc st.ks.length ka h a c W x.c5 hwr).mono fun e W' ⟨h1, h2⟩ => hopPost_no hw h1 h2
theorem hop_answer (hw : WayS W wb P Q G H sa sc S st) (hsec : ∀ W', Below wb W W' → RowL W' sa sc S) (h3 : st.ks.length ≤ 3) (h16 : ∀ k ∈ st.ks, k < 65536) (hth : st.hm ≤ 1000) (h : Hp) (a : Option Addr) (c : Nat) (hb : RowB W a c h.body) (hb8 : ∀ x ∈ h.body, x < 256) (ht8 : h.turn < 256) :
    Calls Try.prog 13 #[.pointer (some ⟨wb, 0, none⟩), .agg (hopC h a c)] W (HopPost wb P Q G H sa sc S W (backF' st h)) := by
  unfold backF'
  split
  · rename_i hwr
    obtain ⟨kg, kc, hne, hat⟩ := wayAt_of hw (wrong_le hwr).1
    refine (way_answer wb kg kc st.ks st.th st.hm (1073741824 + st.hm) rfl h a c W hat hne h3 h16 hth hb hb8 ht8 hwr).mono ?_
    rintro e W' ⟨v, rfl, ho, hB⟩
    have z := hw.lt
    obtain ⟨kv, x⟩ := hw.way
    have hK : Kp wb W W' := Kp.set hB (Nat.le_of_lt z)
    refine ⟨v, rfl, ho, ⟨⟨kv, wayX_set x (by omega) hB (hsec _ hK.bel)⟩, ?_, ?_, fun j => ?_⟩, hK⟩
    · rw [hB.cell (p := ⟨wb, 6, none⟩) z, sset_other (by omega)]; exact hw.t6
    · rw [hB.cell (p := ⟨wb, 7, none⟩) z]; exact World.cell?_setCell_same' _ _ _ (by simp [hw.m7])
    · rw [hB.frozen (p := ⟨wb, j, none⟩) z, World.frozen?_setCell]; exact hw.fr j
  · rename_i hwr
    obtain ⟨kv, x⟩ := hw.way
    obtain ⟨ka, kc, rfl, _⟩ := own_any x.own
    exact (way_answer_no wb kc st.ks.length ka h a c W x.c5 hwr).mono fun e W' ⟨h1, h2⟩ => hopPost_no hw h1 h2
end
end Go.Proofs.Ytkodhpjmmiapaaa

/- Rows of points of one's own; the contract of lockwrightkeep.few. -/
import Derived.Test.YtfgmnlphejpcaaaJoin
import Derived.Test.YtfgmnlphejpcaaaSplit
namespace Go.Proofs.Ytfgmnlphejpcaaa
open Go.RowKit Go.Maps
set_option linter.unusedVariables false
set_option linter.unusedSimpArgs false
theorem flatI_len : ∀ (pts : List (Int × Int)), (flatI pts).length = pts.length * 2
  | [] => rfl
  | v :: t => by
    show (Value.int .i64 v.1 :: Value.int .i64 v.2 :: flatI t).length = _
    simp only [List.length_cons, flatI_len t]; omega
theorem flatI_append (a b : List (Int × Int)) : flatI (a ++ b) = flatI a ++ flatI b := by simp [flatI]
theorem own_rowP {W : World} {base : Nat} {v : Value} {pts : List (Int × Int)} (h : W.ownsRow base 43 2 v pts.length (flatI pts)) : ∃ a c, v = .slice a pts.length c ∧ RowP W a c pts := by
  rcases h.2 with ⟨h1, h2⟩ | ⟨g, cap, cur, h1, h2, h3, h4, h5, h6, h7⟩
  · have : pts = [] := List.eq_nil_of_length_eq_zero h2
    subst this
    exact ⟨none, 0, h1, fun _ => ⟨rfl, rfl⟩, (fun ad e => by cases e), Nat.le_refl _⟩
  · refine ⟨_, cap, h1, (fun e => by cases e), (fun ad e j u hu => ?_), h4⟩
    cases e
    rw [add_at]
    have hi : j < (flatI pts).length := (List.getElem?_eq_some_iff.1 hu).1
    have hl := h.1
    rw [← h7, List.getElem?_take, if_pos (by omega)] at hu
    simp only [World.cell?]; rw [h3]; simpa using hu
/-- the shares, as points -/
def ptsL (p : Int) (xs : List Int) (n : Nat) : List (Int × Int) := (List.range n).map fun (I : Nat) => ((I : Int) + 1, valL p xs ((I : Int) + 1))
theorem ptsL_flat (p : Int) (xs : List Int) : ∀ n, ptsV p xs n = flatI (ptsL p xs n)
  | 0 => rfl
  | n + 1 => by
    unfold ptsL ptsV
    rw [List.range_succ, List.map_append, flatI_append, ptsL_flat p xs n]
    rfl
theorem ptsL_len (p : Int) (xs : List Int) (n : Nat) : (ptsL p xs n).length = n := by simp [ptsL]
theorem ptsL_mem {p : Int} {xs : List Int} {n : Nat} {v : Int × Int} (h : v ∈ ptsL p xs n) : 1 ≤ v.1 ∧ v.1 ≤ n ∧ v.2 = valL p xs v.1 := by
  obtain ⟨I, hI, rfl⟩ := List.mem_map.1 h
  have : I < n := by simpa using hI
  exact ⟨by simp only; omega, by simp only; omega, rfl⟩
theorem ptsL_nodup (p : Int) (xs : List Int) (n : Nat) : ((ptsL p xs n).map (·.1)).Nodup := by
  unfold ptsL
  rw [List.map_map, List.nodup_iff_pairwise_ne, List.pairwise_map]
  exact List.nodup_range.imp (fun {a b} hab e => hab (by simp only [Function.comp] at e; omega))
set_option maxRecDepth 100000 in
set_option maxHeartbeats 6400000 in
theorem keep_few (mask : Int) (a : Option Addr) (c : Nat) (pts : List (Int × Int)) (w : World) {L : Nat} (h : RowP w a c pts) (eL : pts.length = L) (hl : L ≤ 1000) (hm : 0 ≤ mask) (hm2 : mask ≤ 4294967295) :
    Calls Try.prog 28 #[.slice a L c, .int .u32 mask] w fun e w' => (∃ (v : Value) (qs : List (Int × Int)), e = .returned v ∧ w'.ownsRow w.heap.size 43 2 v qs.length (flatI qs) ∧ qs.Sublist pts) ∧ Below w.heap.size w w' := by
  have HR := Lib.hid h
  have HL := Lib.hid eL
  obtain ⟨i0, hi, hz0, hz1, hz2⟩ := info_parts point_info
  have hu : Try.prog.underlying 39 = some (.slice 43) := by kernel_rfl
  clear h eL
  go_enter Try.func28, Try.ntmps28
  go_wp2
  go_loopw [6, 5] (fun i v wr => ∃ (I : Nat) (qs : List (Int × Int)), i = .int .i64 I ∧ I ≤ L ∧ I ≤ 32 ∧ qs.length ≤ I ∧ Below w.heap.size w wr ∧ wr.ownsRow w.heap.size 43 2 v qs.length (flatI qs) ∧ Hid (qs.Sublist (pts.take I))) (fun i _ _ => L - (intOf i).toNat)
  case atStart => exact ⟨0, [], rfl, Nat.zero_le _, by omega, Nat.le_refl _, Below.refl _ _, World.ownsRow_nil _ _ _ _, Lib.hid (List.nil_sublist _)⟩
  case round =>
    obtain ⟨I, qs, rfl, hI, hI2, hq, hb, hr, HS⟩ := hrel
    have hz := hb.size
    by_cases hlt : I < L ∧ I < 32
    · obtain ⟨hlt1, hlt2⟩ := hlt
      obtain ⟨v, hv⟩ : ∃ v, pts[I]? = some v := ⟨_, List.getElem?_eq_getElem (by rw [HL.out]; omega)⟩
      obtain ⟨b, o, rfl, hcell⟩ := (HR.out.below hb (Nat.le_refl _)).shape (by rw [HL.out]; omega)
      obtain ⟨x, y⟩ := v
      obtain ⟨kx, ky⟩ := hcell I (x, y) hv
      simp only at kx ky
      have HT1 : Hid (pts.take (I + 1) = pts.take I ++ [(x, y)]) := Lib.hid (by rw [List.take_add_one, hv]; rfl)
      have HF := Lib.hid (flatI_append qs [(x, y)])
      obtain ⟨nq, hnq⟩ : ∃ n, qs.length = n := ⟨_, rfl⟩
      have HNQ := Lib.hid hnq
      rw [hnq] at hr hq
      clear hcell hv hnq
      go_wp2_with (first
        | (at_builtin; refine wpList_append_own _ rfl _ _ 39 rfl w.heap.size 43 i0 (.agg #[.int .i64 0, .int .i64 0]) 2 16 hu hi hz0 hz1 hz2 rfl (by decide) _ _ _ rfl (hr.alloc _) ⟨wr.heap.size, 0, none⟩ 1 1 [.int .i64 x, .int .i64 y] rfl rfl (cell_two_new _ _ _ _) (by simp [Value.oneCell']) (by unfold maxLen; omega) (by omega) (by simp; omega) ?_; intro v' w2 hown' hg2 hnil2))
      all_goals go_round
      all_goals first
        | exact ⟨I + 1, qs ++ [(x, y)], by go_num, by omega, by omega, by rw [List.length_append, HNQ.out]; simp; omega, (hb.alloc (by omega) _).grown hg2 (by simp; omega) (fun j hj => (hr.lt j hj).1), by rw [List.length_append, HNQ.out, HF.out]; exact hown', Lib.hid (by rw [HT1.out]; exact HS.out.append (List.Sublist.refl _))⟩
        | exact ⟨I + 1, qs, by go_num, by omega, by omega, by rw [HNQ.out]; omega, hb, by rw [HNQ.out]; exact hr, Lib.hid (by rw [HT1.out]; exact HS.out.trans (List.sublist_append_left _ _))⟩
        | (simp [intOf]; omega)
    · have HS2 := Lib.hid (HS.out.trans (List.take_sublist I pts))
      obtain ⟨nq, hnq⟩ : ∃ n, qs.length = n := ⟨_, rfl⟩
      have HNQ := Lib.hid hnq
      rw [hnq] at hr
      clear hnq
      rcases Nat.lt_or_ge I L with hlt3 | hge
      · obtain rfl : I = 32 := by omega
        go_wp2
        go_ret
        exact ⟨⟨_, qs, rfl, by rw [HNQ.out]; exact hr, HS2.out⟩, hb⟩
      · obtain rfl : I = L := by omega
        go_wp2
        go_ret
        exact ⟨⟨_, qs, rfl, by rw [HNQ.out]; exact hr, HS2.out⟩, hb⟩
end Go.Proofs.Ytfgmnlphejpcaaa

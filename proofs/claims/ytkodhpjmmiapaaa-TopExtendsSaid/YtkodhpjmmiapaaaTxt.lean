/- The contract of shake.text: numbers as bytes. -/
import Derived.Test.YtkodhpjmmiapaaaPad
import Derived.Test.YtkodhpjmmiapaaaGrp4
namespace Go.Proofs.Ytkodhpjmmiapaaa
open Go.RowKit
set_option linter.unusedVariables false
set_option linter.unusedSimpArgs false
/-- numbers as bytes, four for each -/
def txtN (zs : List Nat) : List Nat := zs.flatMap fun z => litN z 4
theorem txtN_snoc (zs : List Nat) (z : Nat) : txtN (zs ++ [z]) = txtN zs ++ litN z 4 := by simp [txtN]
theorem txtN_len (zs : List Nat) : (txtN zs).length = 4 * zs.length := by
  induction zs with
  | nil => rfl
  | cons z t ih => simp [txtN, List.flatMap_cons, litN_len] at ih ⊢; omega
theorem own_below {W W' : World} {base : Nat} {e : TypeId} {size : Nat} {v : Value} {k : Nat} {xs : List Value} (h : W.ownsRow base e size v k xs) (hb : Below W.heap.size W W') : W'.ownsRow base e size v k xs := by
  rcases h with ⟨h0, h | ⟨g, cap, cur, h1, h2, h3, h4⟩⟩
  · exact ⟨h0, .inl h⟩
  · exact ⟨h0, .inr ⟨g, cap, cur, h1, h2, (hb.block g (Array.getElem?_eq_some_iff.1 h3).1).trans h3, h4⟩⟩
set_option maxRecDepth 20000 in
set_option maxHeartbeats 3200000 in
theorem shake_text (a : Option Addr) (c : Nat) (zs : List Nat) (w : World) (h : RowI w a (zs.map Int.ofNat)) (hl : zs.length ≤ 8) (hz : ∀ z ∈ zs, z ≤ 4611686018427387904) :
    Calls Try.prog 37 #[.slice a zs.length c] w fun e w' => ∃ v, e = .returned v ∧ Below w.heap.size w w' ∧ w'.ownsRow w.heap.size 5 1 v (4 * zs.length) (byV (txtN zs)) := by
  obtain ⟨L, hL⟩ : ∃ L, L = zs.length := ⟨_, rfl⟩
  rw [← hL] at hl ⊢
  have HL := Lib.hid hL
  have HZ := Lib.hid hz
  clear hL hz
  obtain ⟨i0, hi, hz0, hz1, hz2⟩ := info_parts byte_info
  have hu : Try.prog.underlying 31 = some (.slice 5) := by kernel_rfl
  go_enter Try.func37, Try.ntmps37
  go_wp2
  go_loopw [3, 8] (fun v i wr => ∃ I : Nat, i = .int .i64 I ∧ I ≤ L ∧ Below w.heap.size w wr ∧ wr.ownsRow w.heap.size 5 1 v (4 * I) (byV (txtN (zs.take I)))) (fun _ i _ => L - (intOf i).toNat)
  case atStart => exact ⟨0, rfl, by omega, Below.refl _ _, World.ownsRow_nil _ _ _ _⟩
  case round =>
    obtain ⟨I, rfl, hI, hb, hr⟩ := hrel
    have zr := hb.size
    by_cases hlt : I < L
    · obtain ⟨x, hx⟩ : ∃ x, zs[I]? = some x := ⟨_, List.getElem?_eq_getElem (by rw [← HL.out]; exact hlt)⟩
      obtain ⟨b, o, rfl, c2, c3⟩ := h I (x : Int) (by simp [hx])
      have kx := (hb.cell (p := ⟨b, o + I, none⟩) (by simpa using c2)).trans c3
      have hx2 := HZ.out x (List.mem_of_getElem? hx)
      have HT : Hid (txtN (zs.take (I + 1)) = txtN (zs.take I) ++ litN x 4) := Lib.hid (by rw [List.take_add_one, hx]; simp [txtN])
      clear hx
      go_wp2_with fail
      refine (hash_Little x 4 _ hx2 (by omega)).mono ?_
      rintro e w1 ⟨u, rfl, hb1, hr1⟩
      have hlen := litN_len 4 x
      obtain ⟨a2, c2', rfl, h2, ha⟩ : ∃ a c, u = .slice a (litN x 4).length c ∧ RowB w1 a c (litN x 4) ∧ ∀ ad, a = some ad → ∃ g, ad = ⟨g, 0, none⟩ := own_rowB (by rw [hlen]; exact hr1)
      rw [hlen]
      rcases a2 with _ | ad
      · have := (h2.1 rfl).1
        rw [this] at hlen
        cases hlen
      · have hown1 := own_below hr hb1
        have hcell := h2.2 ad rfl
        clear hr hr1 ha h2
        go_wp2_with (first
          | (at_builtin; refine wpList_append_own _ rfl _ _ 31 rfl w.heap.size 5 i0 (.int .u8 0) 1 1 hu hi hz0 hz1 hz2 rfl (by decide) _ _ _ rfl hown1 ad 4 c2' (byV (litN x 4)) rfl (by rw [byV_len, hlen]) hcell (byV_one _) (by unfold maxLen; omega) (by omega) (by have := hb1.size; omega) ?_; intro v' w2 hown' hg2 hnil2))
        have s2 := hg2.size
        have hbb : Below w.heap.size w w2 := (below_two hb hb1).grown hg2 (by have := hb1.size; omega) (fun j hj => (hown1.lt j hj).1)
        go_round
        case rel =>
          refine ⟨I + 1, by go_num, by omega, hbb, ?_⟩
          rw [HT.out, byV_append]
          exact hown'
        case measure => simp [intOf]; omega
    · obtain rfl : I = L := by omega
      go_wp2
      go_ret
      refine ⟨_, rfl, hb, ?_⟩
      have e : zs.take I = zs := by rw [HL.out]; exact List.take_length
      rw [e] at hr
      exact hr
end Go.Proofs.Ytkodhpjmmiapaaa

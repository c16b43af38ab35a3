/- The contract of feistel.Order. -/
import Derived.Test.YtabhmhojlhagcaaOrdG
import Derived.Test.YtabhmhojlhagcaaFeO
import Derived.Test.YtabhmhojlhagcaaEu
namespace Go.Proofs.Ytabhmhojlhagcaa
open Go.RowKit
set_option linter.unusedVariables false
set_option linter.unusedSimpArgs false
theorem seal_perm {rows : List (List Int)} (h : Rnd rows) : F.Perm (sealN rows) (openN rows) := ⟨fun x hx => sealN_lt h hx, fun x hx => openN_lt h hx, fun x hx => openN_sealN h hx⟩
/-- the array of what is seen -/
def Seen (W : World) (g : Nat) (s : Nat → Bool) : Prop := ∃ cur, W.heap[g]? = some (.cells cur 55 (0, 0)) ∧ cur.size = 256 ∧ ∀ i, i < 256 → cur[i]? = some (.bool (s i))
theorem Seen.cell {W : World} {g : Nat} {s : Nat → Bool} (h : Seen W g s) {i : Nat} (hi : i < 256) : W.cell? ⟨g, i, none⟩ = some (.bool (s i)) := by
  obtain ⟨cur, h1, h2, h3⟩ := h
  simp only [World.cell?, h1]
  simpa using h3 i hi
theorem Seen.frozen {W : World} {g : Nat} {s : Nat → Bool} (h : Seen W g s) (i : Nat) : W.frozen? ⟨g, i, none⟩ = false := by
  obtain ⟨cur, h1, h2, h3⟩ := h
  simp [World.frozen?, h1]
theorem Seen.set {W : World} {g : Nat} {s : Nat → Bool} (h : Seen W g s) {z : Nat} (hz : z < 256) : Seen (W.setCell ⟨g, z, none⟩ (.bool true)) g (F.see s z) := by
  obtain ⟨cur, h1, h2, h3⟩ := h
  refine ⟨cur.setIfInBounds z (.bool true), ?_, by simp [h2], fun i hi => ?_⟩
  · simp [World.setCell, Array.getElem?_modify, h1]
  · unfold F.see
    by_cases e : i = z
    · subst e; rw [if_pos rfl]; simp [h2, hz]
    · rw [if_neg e, Array.getElem?_setIfInBounds, if_neg (fun e2 => e e2.symm)]; exact h3 i hi
theorem Seen.drewN {W : World} {g : Nat} {s : Nat → Bool} (h : Seen W g s) (n : Nat) : Seen (W.drewN n) g s := h
theorem Seen.new (W : World) : Seen (W.alloc (.cells (Array.replicate 256 (.bool false)) 55)) W.heap.size (fun _ => false) :=
  ⟨_, World.alloc_heap_new W _, by simp, fun i hi => by simp [hi]⟩
set_option maxRecDepth 20000 in
set_option maxHeartbeats 3200000 in
theorem feistel_Order (a : Option Addr) (c : Nat) (R : Nat → Option Addr × Nat) (rows : List (List Int)) (w : World) (L : Nat) (h : RowR w a c R rows) (hL : rows.length = L) (hf : fsE rows 0 = 0) :
    Calls Try.prog 20 #[.slice a L c] w fun e w' => ∃ O : Nat, e = .returned (.tuple #[.int .i64 O, .int .i64 0]) ∧ F.IsAll (sealN rows) O ∧ Below w.heap.size w w' := by
  have hz := fsE_zero.1 hf
  have l64 := hz.1.len
  have HR := Lib.hid h
  have HW := Lib.hid fun w h => feistel_wrong a c R rows 0 w L h hL (by omega) (fun r hr => by rw [hz.1.row r hr]; omega)
  have HS := Lib.hid fun w x (hx : x < 256) h => feistel_seal a c R rows x w L h hL hz.1 hx
  have HP := Lib.hid (seal_perm hz.1)
  rw [hf] at HW
  obtain ⟨fn, hfn⟩ : ∃ f, sealN rows = f := ⟨_, rfl⟩
  rw [hfn] at HS HP ⊢
  clear hfn hf hL h hz l64
  go_enter Try.func20, Try.ntmps20
  go_wp2_with fail
  refine (HW.out _ HR.out).mono ?_
  rintro e w1 ⟨rfl, hb1⟩
  have hzv : Sem.run Try.prog (zeroValue 55) w1 = .ok (.agg (Array.replicate 256 (.bool false))) w1 := by kernel_rfl
  obtain ⟨zs, hzs⟩ : ∃ zs, zs = Array.replicate 256 (Value.bool false) := ⟨_, rfl⟩
  rw [← hzs] at hzv
  have HZ := Lib.hid hzs
  clear hzs
  go_wp2
  have hb0 : Below w1.heap.size w1 (w1.alloc (.cells zs 55)) := (Below.refl _ _).alloc (Nat.le_refl _) _
  have hs0 : Seen (w1.alloc (.cells zs 55)) w1.heap.size (fun _ => false) := by rw [HZ.out]; exact Seen.new w1
  obtain ⟨w2, hw2⟩ : ∃ W, W = w1.alloc (.cells zs 55) := ⟨_, rfl⟩
  rw [← hw2] at hb0 hs0 ⊢
  clear hw2 hzv
  have HR1 := Lib.hid (HR.out.below hb1 (Nat.le_refl _))
  go_loopw [6, 17] (fun o x wr => ∃ (X O : Nat) (s : Nat → Bool) (D : List Nat), x = .int .i64 (X : Int) ∧ X ≤ 256 ∧ o = .int .i64 (O : Int) ∧ Hid (F.OInv fn X s O D) ∧ Below w1.heap.size w1 wr ∧ Seen wr w1.heap.size s) (fun _ x _ => 256 - (intOf x).toNat)
  case atStart => exact ⟨0, 1, _, [], rfl, by omega, rfl, Lib.hid (F.OInv.init fn), hb0, hs0⟩
  case round =>
    obtain ⟨X, O, s, D, rfl, hX, rfl, HI, hb, hsn⟩ := hrel
    have OB : Hid ((O : Int) ≤ 4611686018427387904) := Lib.hid (by have := HI.out.lt; omega)
    have o1 := HI.out.pos
    by_cases hlt : X < 256
    · obtain ⟨wo, hwo⟩ : ∃ wo : World, wo = wr := ⟨_, rfl⟩
      rw [← hwo] at hb hsn ⊢
      clear hwo wr
      have hltI : (X : Int) < 256 := by omega
      go_wp2
      go_loopw [8, 9] (fun sz y wr => ∃ (k z : Nat) (t : Nat → Bool), sz = .int .i64 (k : Int) ∧ y = .int .i64 (z : Int) ∧ Hid (z = F.it fn k X) ∧ Hid (F.CInv fn s X k t) ∧ Hid (s X = true → k = 0) ∧ Below w1.heap.size w1 wr ∧ Seen wr w1.heap.size t) (fun sz _ _ => 256 - (intOf sz).toNat)
      case atStart => exact ⟨0, X, s, rfl, rfl, Lib.hid rfl, Lib.hid (F.CInv.init fn s X), Lib.hid (fun _ => rfl), hb, hsn⟩
      case round =>
        obtain ⟨k, z, t, rfl, rfl, HZ, HC, H0, hb, hst⟩ := hrel
        have hz : z < 256 := by rw [HZ.out]; exact HP.out.it_lt hlt k
        have hk := HC.out.size
        have c1 := hst.cell hz
        have f1 := hst.frozen z
        have HT := Lib.hid hst
        have hzs := hb.size
        obtain ⟨b, hbt⟩ : ∃ b, t z = b := ⟨_, rfl⟩
        rw [hbt] at c1
        have HB := Lib.hid hbt
        clear hbt hst
        cases b with
        | false =>
          have hC2 := HC.out.step HP.out hlt (by rw [← HZ.out]; exact HB.out)
          rw [← HZ.out] at hC2
          have HC2 := Lib.hid hC2
          clear hC2
          have hk2 := HC2.out.size
          have hb2 := hb.setCell (p := ⟨w1.heap.size, z, none⟩) (Nat.le_refl _) (.bool true)
          have hs2 := HT.out.set hz
          have HSl := Lib.hid (fun W h => HS.out W z hz h)
          have H01 : Hid (s X = true → k + 1 = 0) := Lib.hid fun h => by
            have hk0 := H0.out h
            have h1 := (HC.out.iff X hlt).2 (.inl h)
            have h2 := HB.out
            rw [HZ.out, hk0] at h2
            exact absurd (h1.symm.trans h2) (by decide)
          have HNx : Hid (fn z = F.it fn (k + 1) X) := Lib.hid (by rw [HZ.out]; rfl)
          obtain ⟨y, hy⟩ : ∃ y, fn z = y := ⟨_, rfl⟩
          rw [hy] at HSl HNx
          clear hy
          have HRR := Lib.hid (HR1.out.below hb2 (Nat.le_refl _))
          have HS2 := Lib.hid hs2
          have HB2 := Lib.hid hb2
          clear hs2 hb2 hb
          go_wp2_with fail
          refine (HSl.out _ HRR.out).mono ?_
          rintro e w' ⟨rfl, n, rfl⟩
          go_wp2
          go_roundw
          case rel => exact ⟨k + 1, y, _, by go_num, rfl, HNx, HC2, H01, below_drewN HB2.out _, HS2.out.drewN _⟩
          case measure => simp [intOf]; omega
        | true =>
          cases hsX : s X with
          | true =>
            have hk0 := H0.out hsX
            subst hk0
            have HT0 : Hid (∀ i, i < 256 → t i = s i) := Lib.hid fun i hi => by
              rw [Bool.eq_iff_iff, HC.out.iff i hi]
              exact ⟨fun h => h.elim id fun ⟨j, hj, _⟩ => absurd hj (Nat.not_lt_zero _), .inl⟩
            have HN := Lib.hid (HI.out.skip hsX)
            have HT2 : Hid (Seen wr w1.heap.size s) := Lib.hid (by
              obtain ⟨cur, h1, h2, h3⟩ := HT.out
              exact ⟨cur, h1, h2, fun i hi => by rw [h3 i hi, HT0.out i hi]⟩)
            have hsz : ((0 : Nat) : Int) = 0 := rfl
            rw [hsz]
            clear hsX
            go_wp2
            go_roundw
            case rel => exact ⟨X + 1, O, s, D, by go_num, by omega, rfl, HN, hb, HT2.out⟩
            case measure => simp [intOf]; omega
          | false =>
            obtain ⟨hk1, hkx⟩ := HC.out.done HP.out hlt HI.out.cl hsX (by rw [← HZ.out]; exact HB.out)
            obtain ⟨D', hD'⟩ := HI.out.next HP.out hlt hsX HC.out hk1 hkx
            have HN := Lib.hid hD'
            have he := F.lcm_as O k hk1
            have hl1 := hD'.pos
            have hl2 : Nat.lcm O k ≤ 4611686018427387904 := by have := hD'.lt; omega
            have hg0 : 0 < Nat.gcd (O % k) k := Nat.gcd_pos_of_pos_right _ hk1
            have hmk := Nat.mod_lt O hk1
            have hgk : Nat.gcd (O % k) k ≤ k := Nat.gcd_le_right _ hk1
            have HGc : Hid (∀ W, Calls Try.prog 34 #[.int .i64 ((O % k : Nat) : Int), .int .i64 (k : Int)] W fun e w' => e = .returned (.tuple #[.int .i64 ((Nat.gcd (O % k) k : Nat) : Int), .int .i64 0]) ∧ Below W.heap.size W w') := Lib.hid (fun W => euclid_Gcd ((O % k : Nat) : Int) (k : Int) W (by omega) (by omega) (by omega) (by omega))
            have t1 : (O : Int).tmod k = ((O % k : Nat) : Int) := by rw [Int.tmod_eq_emod_of_nonneg (by omega)]; norm_cast
            have t2 : (O : Int) % k = ((O % k : Nat) : Int) := by norm_cast
            obtain ⟨r, hr⟩ : ∃ r, O % k = r := ⟨_, rfl⟩
            rw [hr] at HGc t1 t2 he hg0 hgk
            obtain ⟨G, hG⟩ : ∃ G, Nat.gcd r k = G := ⟨_, rfl⟩
            rw [hG] at HGc he hg0 hgk
            have t3 : (O : Int).tdiv G = ((O / G : Nat) : Int) := by rw [Int.tdiv_eq_ediv_of_nonneg (by omega)]; norm_cast
            have t4 : (O : Int) / G = ((O / G : Nat) : Int) := by norm_cast
            have hq : O / G ≤ O := Nat.div_le_self _ _
            obtain ⟨q, hqe⟩ : ∃ q, O / G = q := ⟨_, rfl⟩
            rw [hqe] at t3 t4 he hq
            obtain ⟨M, hM⟩ : ∃ M, Nat.lcm O k = M := ⟨_, rfl⟩
            rw [hM] at he HN hl1 hl2
            have t5 : (q : Int) * (k : Int) = (M : Int) := by rw [← he]; norm_cast
            have t6 : IntKind.i64.wrap ((q : Int) * (k : Int)) = (M : Int) := by rw [t5]; exact IntWalk.i64_in _ (by omega)
            have t7 : ((k : Int) == 0) = false := by simp; omega
            have t8 : ¬ (k : Int) = 0 := by omega
            have t9 : ((G : Int) == 0) = false := by simp; omega
            have t10 : ¬ (G : Int) = 0 := by omega
            have t11 : (0 : Int) < k := by omega
            have HL2 := Lib.hid hl2
            clear hl2 hM hqe hG hr hD' hkx hsX hmk
            go_wp2_with fail
            refine (HGc.out _).mono ?_
            rintro e w' ⟨rfl, hb3⟩
            have HT3 : Hid (Seen w' w1.heap.size t) := Lib.hid (by
              obtain ⟨cur, h1, h2, h3⟩ := HT.out
              exact ⟨cur, (hb3.block _ (Array.getElem?_eq_some_iff.1 h1).1).trans h1, h2, h3⟩)
            have hb4 := hb.trans (hb3.mono hzs)
            have HQ : Hid (wrap64 (wrap64 (q : Int) * (k : Int)) = (M : Int)) := Lib.hid (by
              have h1 := OB.out
              have h2 := HL2.out
              rw [Go.IntWalk.wrap64_in (q : Int) (by omega), t5, Go.IntWalk.wrap64_in (M : Int) (by omega)])
            clear he hq hb3
            go_wp2
            go_roundw
            case rel => exact ⟨X + 1, M, t, D', by go_num, by omega, by rw [HQ.out], HN, hb4, HT3.out⟩
            case measure => simp [intOf]; omega
    · have e : X = 256 := by omega
      have HF : Hid (F.IsAll fn O) := Lib.hid (by have := HI.out; rw [e] at this; exact this.fin)
      have hge : ¬ (X : Int) < 256 := by omega
      have hbz := below_two hb1 hb
      clear hsn e
      go_wp2
      go_ret2
      exact ⟨O, rfl, HF.out, hbz⟩
end Go.Proofs.Ytabhmhojlhagcaa

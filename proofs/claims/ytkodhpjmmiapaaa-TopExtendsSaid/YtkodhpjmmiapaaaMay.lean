/- The reference's GroupAsk without members; may. -/
import Derived.Test.YtkodhpjmmiapaaaExtP
namespace Go.Proofs.Ytkodhpjmmiapaaa
open Go.RowKit
set_option linter.unusedVariables false
set_option linter.unusedSimpArgs false
set_option maxHeartbeats 1600000 in
theorem ref_GroupAsk (P Q G H : Int) (a : Option Addr) (c : Nat) (S : List Int) (w : World) (hr : RowL w a c S) (h3 : S.length ≤ 9223372036854775807) :
    Calls Try.prog 14 #[.agg #[.int .i64 P, .int .i64 Q, .int .i64 G, .int .i64 H], .slice a S.length c, .slice none 0 0] w fun e w' => e = .returned (.int .i64 (if grpE P Q G H = 0 then (if S.any (offB Q) = true then 2 else 0) else grpE P Q G H)) ∧ Below w.heap.size w w' := by
  have HC := Lib.hid fun w' => ref_GroupCheck P Q G H w'
  obtain ⟨x, hx⟩ : ∃ x, grpE P Q G H = x := ⟨_, rfl⟩
  rw [hx] at HC ⊢
  clear hx
  by_cases hx0 : x = 0
  · subst hx0
    rw [if_pos rfl]
    have HR := Lib.hid hr
    obtain ⟨N, hN⟩ : ∃ N, S.length = N := ⟨_, rfl⟩
    rw [hN] at h3 ⊢
    have HN := Lib.hid hN
    have HT := Lib.hid fun (j : Nat) (s : Int) (h1 : S[j]? = some s) (h2 : offB Q s = true) => (if_pos (List.any_eq_true.2 ⟨s, List.mem_of_getElem? h1, h2⟩) : (if S.any (offB Q) = true then (2 : Int) else 0) = 2)
    have HF := Lib.hid fun (h : ∀ j s, S[j]? = some s → offB Q s = false) => (if_neg (by
      intro e
      obtain ⟨s, hs, h2⟩ := List.any_eq_true.1 e
      obtain ⟨j, hj⟩ := List.getElem?_of_mem hs
      rw [h j s hj] at h2
      cases h2) : (if S.any (offB Q) = true then (2 : Int) else 0) = 0)
    obtain ⟨r, hrr⟩ : ∃ r, (if S.any (offB Q) = true then (2 : Int) else 0) = r := ⟨_, rfl⟩
    rw [hrr] at HT HF ⊢
    clear hr hN hrr
    go_enter Try.func14, Try.ntmps14
    go_wp2_with fail
    refine (HC.out _).mono ?_
    rintro e w1 ⟨rfl, hb1⟩
    have hb := below_two (alloc_below w _) hb1
    have q1 := kept hb1 (b := w.heap.size) (o := 1) (v := .int .i64 Q) (by simp [go_sem]) (by simp)
    have zg : w.heap.size < w1.heap.size := World.block_lt_of_cell? _ _ q1
    have HB := Lib.hid hb
    clear hb1 hb
    go_wp2
    go_loopw [19] (fun i wr => ∃ I : Nat, i = .int .i64 I ∧ I ≤ N ∧ (∀ j s, j < I → S[j]? = some s → offB Q s = false) ∧ Below w1.heap.size w1 wr) (fun i _ => N - (intOf i).toNat)
    case atStart => exact ⟨0, rfl, by omega, fun j s h => absurd h (Nat.not_lt_zero _), Below.refl _ _⟩
    case round =>
      obtain ⟨I, rfl, hI, hall, hbr⟩ := hrel
      by_cases hlt : I < N
      · obtain ⟨s, hs⟩ : ∃ s, S[I]? = some s := ⟨_, List.getElem?_eq_getElem (by rw [HN.out]; exact hlt)⟩
        obtain ⟨b, o, rfl, hcs⟩ := ((HR.out.below HB.out (Nat.le_refl _)).below hbr (Nat.le_refl _)).shape (by rw [HN.out]; omega)
        have ks := hcs I s hs
        have kq := kept hbr q1 zg
        have HS := Lib.hid hs
        have HBr := Lib.hid hbr
        have HAll := Lib.hid hall
        have hI2 : (I : Int) < (N : Int) := by omega
        clear hs hcs hbr hall
        by_cases h1 : s < 0
        · have d1 : decide (s < 0) = true := decide_eq_true h1
          have HR2 := Lib.hid (HT.out I s HS.out (by simp [offB, h1]))
          obtain rfl := HR2.out
          go_wp2
          go_ret
          exact ⟨rfl, below_two HB.out HBr.out⟩
        · have d1 : decide (s < 0) = false := decide_eq_false h1
          by_cases h2 : Q ≤ s
          · have d2 : decide (Q ≤ s) = true := decide_eq_true h2
            have HR2 := Lib.hid (HT.out I s HS.out (by simp [offB, h2]))
            obtain rfl := HR2.out
            go_wp2
            go_ret
            exact ⟨rfl, below_two HB.out HBr.out⟩
          · have d2 : decide (Q ≤ s) = false := decide_eq_false h2
            have HO : Hid (offB Q s = false) := Lib.hid (by simp [offB]; omega)
            go_wp2
            go_round
            case rel => exact ⟨I + 1, by go_num, by omega, fun j t hj ht => by
              by_cases e : j = I
              · subst e; rw [HS.out] at ht; cases ht; exact HO.out
              · exact HAll.out j t (by omega) ht, HBr.out⟩
            case measure => simp [intOf]; omega
      · have HR2 := Lib.hid (HF.out fun j s hj => hall j s (by have := (List.getElem?_eq_some_iff.1 hj).1; have := HN.out; omega) hj)
        obtain rfl := HR2.out
        have HBr := Lib.hid hbr
        clear hall hbr
        have hn0 : ¬ (I : Int) < (N : Int) := by omega
        go_wp2
        go_loopw [34] (fun i wr => i = .int .i64 0 ∧ Below w1.heap.size w1 wr) (fun i _ => 0)
        case atStart => exact ⟨rfl, HBr.out⟩
        case round =>
          obtain ⟨rfl, hb3⟩ := hrel
          go_wp2
          go_ret
          exact ⟨rfl, below_two HB.out hb3⟩
  · rw [if_neg hx0]
    have x1 : (x == (0 : Int)) = false := by simpa using hx0
    have x2 : (x != (0 : Int)) = true := by simpa using hx0
    clear hx0 hr
    go_enter Try.func14, Try.ntmps14
    go_wp2_with fail
    refine (HC.out _).mono ?_
    rintro e w1 ⟨rfl, hb1⟩
    have hb := below_two (alloc_below w _) hb1
    clear hb1
    go_wp2
    go_ret
    exact ⟨rfl, hb⟩
theorem ask_zero {P Q G H : Int} {S : List Int} : (if grpE P Q G H = 0 then (if S.any (offB Q) = true then (2 : Int) else 0) else grpE P Q G H) = 0 ↔ grpE P Q G H = 0 ∧ S.any (offB Q) = false := by
  by_cases h : grpE P Q G H = 0
  · rw [if_pos h]
    cases e : S.any (offB Q) <;> simp [h]
  · rw [if_neg h]; simp [h]
open Classical in
set_option maxHeartbeats 1600000 in
theorem top_may (P Q G H : Int) (a : Option Addr) (c : Nat) (S : List Int) (b : Option Addr) (n d : Nat) (w : World) (hr : RowL w a c S) (h3 : S.length ≤ 9223372036854775807) :
    Calls Try.prog 6 #[.agg #[.int .i64 P, .int .i64 Q, .int .i64 G, .int .i64 H], .slice a S.length c, .slice b n d] w fun e w' => e = .returned (.bool (decide (Good P Q G H S n))) ∧ Below w.heap.size w w' := by
  have HA := Lib.hid fun w' (hb : Below w.heap.size w w') => ref_GroupAsk P Q G H a c S w' (hr.below hb (Nat.le_refl _)) h3
  have hz := ask_zero (P := P) (Q := Q) (G := G) (H := H) (S := S)
  obtain ⟨x, hx⟩ : ∃ x, (if grpE P Q G H = 0 then (if S.any (offB Q) = true then (2 : Int) else 0) else grpE P Q G H) = x := ⟨_, rfl⟩
  rw [hx] at HA hz
  obtain ⟨N, hN⟩ : ∃ N, S.length = N := ⟨_, rfl⟩
  have hG : Good P Q G H S n ↔ x = 0 ∧ N ≤ 3 ∧ n ≤ 100 := by
    unfold Good
    rw [hz, hN]
    exact ⟨fun h => ⟨⟨h.1, h.2.2.2⟩, h.2.1, h.2.2.1⟩, fun h => ⟨h.1.1, h.2.1, h.2.2, h.1.2⟩⟩
  rw [hN] at HA ⊢
  obtain ⟨g, hg⟩ : ∃ g, decide (Good P Q G H S n) = g := ⟨_, rfl⟩
  rw [hg]
  have HG : Hid (∀ b : Bool, (x = 0 ∧ N ≤ 3 ∧ n ≤ 100 ↔ b = true) → b = g) := Lib.hid fun b hb => by
    rw [← hg]
    have := hG.trans hb
    cases b
    · simp at this; simp [this]
    · simp at this; simp [this]
  clear hx hz hG hg hN hr h3
  by_cases h0 : x = 0
  · have x1 : (x == (0 : Int)) = true := by simpa using h0
    have x2 : (x != (0 : Int)) = false := by simpa using h0
    by_cases h1 : N ≤ 3
    · have d1 : decide ((N : Int) ≤ 3) = true := decide_eq_true (by omega)
      by_cases h2 : n ≤ 100
      · have d2 : decide ((n : Int) ≤ 100) = true := decide_eq_true (by omega)
        have HR := Lib.hid (HG.out true ⟨fun _ => rfl, fun _ => ⟨h0, h1, h2⟩⟩)
        obtain rfl := HR.out
        clear h0
        go_enter Try.func6, Try.ntmps6
        go_wp2_with fail
        refine (HA.out _ (alloc_below _ _)).mono ?_
        rintro e w1 ⟨rfl, hb1⟩
        have hb := below_two (alloc_below w _) hb1
        clear hb1
        go_wp2
        go_ret
        exact ⟨rfl, hb⟩
      · have d2 : decide ((n : Int) ≤ 100) = false := decide_eq_false (by omega)
        have HR := Lib.hid (HG.out false ⟨fun h => absurd h.2.2 h2, fun h => by cases h⟩)
        obtain rfl := HR.out
        clear h0
        go_enter Try.func6, Try.ntmps6
        go_wp2_with fail
        refine (HA.out _ (alloc_below _ _)).mono ?_
        rintro e w1 ⟨rfl, hb1⟩
        have hb := below_two (alloc_below w _) hb1
        clear hb1
        go_wp2
        go_ret
        exact ⟨rfl, hb⟩
    · have d1 : decide ((N : Int) ≤ 3) = false := decide_eq_false (by omega)
      have HR := Lib.hid (HG.out false ⟨fun h => absurd h.2.1 h1, fun h => by cases h⟩)
      obtain rfl := HR.out
      clear h0
      go_enter Try.func6, Try.ntmps6
      go_wp2_with fail
      refine (HA.out _ (alloc_below _ _)).mono ?_
      rintro e w1 ⟨rfl, hb1⟩
      have hb := below_two (alloc_below w _) hb1
      clear hb1
      go_wp2
      go_ret
      exact ⟨rfl, hb⟩
  · have x1 : (x == (0 : Int)) = false := by simpa using h0
    have x2 : (x != (0 : Int)) = true := by simpa using h0
    have HR := Lib.hid (HG.out false ⟨fun h => absurd h.1 h0, fun h => by cases h⟩)
    obtain rfl := HR.out
    clear h0
    go_enter Try.func6, Try.ntmps6
    go_wp2_with fail
    refine (HA.out _ (alloc_below _ _)).mono ?_
    rintro e w1 ⟨rfl, hb1⟩
    have hb := below_two (alloc_below w _) hb1
    clear hb1
    go_wp2
    go_ret
    exact ⟨rfl, hb⟩
end Go.Proofs.Ytkodhpjmmiapaaa

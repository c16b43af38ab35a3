/- Contracts of package talk: Speak, Check. -/
import Derived.Test.YtgmkmlfppblpfaaTk3
namespace Go.Proofs.Ytgmkmlfppblpfaa
open Go.RowKit
set_option linter.unusedVariables false
set_option linter.unusedSimpArgs false
theorem pows_three {Q a b c : Int} : powsB Q [a, b, c] = true ↔ (0 ≤ a ∧ a < Q) ∧ (0 ≤ b ∧ b < Q) ∧ (0 ≤ c ∧ c < Q) := by simp [powsB]
theorem frozK {W W' : World} (hb : Below W.heap.size W W') {b o : Nat} (h : b < W.heap.size) (hf : W.frozen? ⟨b, o, none⟩ = false) : W'.frozen? ⟨b, o, none⟩ = false := (froz hb h).trans hf
theorem RowT.one {W : World} {b : Nat} {x : Int × Int × Int} (h0 : W.cell? ⟨b, 0, none⟩ = some (.int .i64 x.1)) (h1 : W.cell? ⟨b, 1, none⟩ = some (.int .i64 x.2.1)) (h2 : W.cell? ⟨b, 2, none⟩ = some (.int .i64 x.2.2)) (hb : b < W.heap.size) : RowT W (some ⟨b, 0, none⟩) [x] := fun i y hy => by
  match i, hy with
  | 0, hy => cases hy; exact ⟨b, rfl, hb, h0, h1, h2⟩
  | i + 1, hy => simp at hy
theorem RowT.two {W : World} {b : Nat} {x y : Int × Int × Int} (h0 : W.cell? ⟨b, 0, none⟩ = some (.int .i64 x.1)) (h1 : W.cell? ⟨b, 1, none⟩ = some (.int .i64 x.2.1)) (h2 : W.cell? ⟨b, 2, none⟩ = some (.int .i64 x.2.2))
    (h3 : W.cell? ⟨b, 3, none⟩ = some (.int .i64 y.1)) (h4 : W.cell? ⟨b, 4, none⟩ = some (.int .i64 y.2.1)) (h5 : W.cell? ⟨b, 5, none⟩ = some (.int .i64 y.2.2)) (hb : b < W.heap.size) : RowT W (some ⟨b, 0, none⟩) [x, y] := fun i z hz => by
  match i, hz with
  | 0, hz => cases hz; exact ⟨b, rfl, hb, h0, h1, h2⟩
  | 1, hz => cases hz; exact ⟨b, rfl, hb, h3, h4, h5⟩
  | i + 2, hz => simp at hz
set_option maxHeartbeats 1600000 in
theorem talk_Speak (P Q G H s k q : Int) (w : World) (hg : grpE P Q G H = 0) (hp : powsB Q [s, k, q] = true) :
    Calls Try.prog 25 #[.agg #[.int .i64 P, .int .i64 Q, .int .i64 G, .int .i64 H], .int .i64 s, .int .i64 k, .int .i64 q] w fun e w' => e = .returned (.tuple #[.agg #[.int .i64 (pw G k P), .int .i64 q, .int .i64 ((k + q * s) % Q)], .int .i64 0]) ∧ Below w.heap.size w w' := by
  have HG := Lib.hid hg
  have HP := Lib.hid hp
  obtain ⟨hs, hk, hq⟩ := pows_three.1 hp
  have ⟨⟨g1, g2, g3, g4, g5, _⟩, _⟩ := grpE_zero hg
  have HS := Lib.hid (fun w => talk_speak P Q G H s k q w (by omega) g2 g3 (by omega) hs hk hq)
  clear hg hp hs hk hq
  go_enter Try.func25, Try.ntmps25
  go_wp2_with fail
  refine (talk_powers P Q G H _ 3 [s, k, q] _ ?r1 (by simp) HG.out HP.out).mono ?_
  case r1 => exact RowI.three (by simp [go_sem]) (by simp [go_sem]) (by simp [go_sem]) (by simp [go_sem] <;> omega)
  rintro e w1 ⟨rfl, hb1⟩
  have z1 := hb1.size
  simp at z1
  have k0 := kept hb1 (b := w.heap.size) (o := 0) (v := .int .i64 P) (by simp [go_sem]) (by simp [go_sem] <;> omega)
  have k1 := kept hb1 (b := w.heap.size) (o := 1) (v := .int .i64 Q) (by simp [go_sem]) (by simp [go_sem] <;> omega)
  have k2 := kept hb1 (b := w.heap.size) (o := 2) (v := .int .i64 G) (by simp [go_sem]) (by simp [go_sem] <;> omega)
  have k3 := kept hb1 (b := w.heap.size) (o := 3) (v := .int .i64 H) (by simp [go_sem]) (by simp [go_sem] <;> omega)
  have r0 := kept hb1 (b := w.heap.size + 1) (o := 0) (v := .int .i64 0) (by simp [go_sem]) (by simp [go_sem] <;> omega)
  have s0 := (froz hb1 (b := w.heap.size + 1) (o := 0) (by simp [go_sem] <;> omega)).trans (show _ = false by simp [go_sem])
  have r1 := kept hb1 (b := w.heap.size + 1) (o := 1) (v := .int .i64 0) (by simp [go_sem]) (by simp [go_sem] <;> omega)
  have s1 := (froz hb1 (b := w.heap.size + 1) (o := 1) (by simp [go_sem] <;> omega)).trans (show _ = false by simp [go_sem])
  have r2 := kept hb1 (b := w.heap.size + 1) (o := 2) (v := .int .i64 0) (by simp [go_sem]) (by simp [go_sem] <;> omega)
  have s2 := (froz hb1 (b := w.heap.size + 1) (o := 2) (by simp [go_sem] <;> omega)).trans (show _ = false by simp [go_sem])
  go_wp2_with fail
  refine (HS.out _).mono ?_
  rintro e w2 ⟨rfl, hb2⟩
  have z2 := hb2.size
  replace r0 := kept hb2 r0 (by omega)
  replace s0 := frozK hb2 (by omega) s0
  replace r1 := kept hb2 r1 (by omega)
  replace s1 := frozK hb2 (by omega) s1
  replace r2 := kept hb2 r2 (by omega)
  replace s2 := frozK hb2 (by omega) s2
  go_wp2
  refine bodyPost_ret (v := .tuple #[.agg #[.int .i64 (pw G k P), .int .i64 q, .int .i64 ((k + q * s) % Q)], .int .i64 0]) ?_ rfl ?_
  · simp [results, Try.f25, go_sem, r0, r1, r2]
  · exact ⟨rfl, (((below_two (below_two ((((Below.refl _ _).alloc (Nat.le_refl _) _).alloc (by simp <;> omega) _).alloc (by simp <;> omega) _) hb1) hb2).setCell (by simp) _).setCell (by simp) _).setCell (by simp) _⟩
set_option maxHeartbeats 1600000 in
theorem talk_Speak_no (P Q G H s k q : Int) (w : World) (h : ¬ (grpE P Q G H = 0 ∧ powsB Q [s, k, q] = true)) :
    Calls Try.prog 25 #[.agg #[.int .i64 P, .int .i64 Q, .int .i64 G, .int .i64 H], .int .i64 s, .int .i64 k, .int .i64 q] w fun e w' => (∃ t : Int, ¬ t = 0 ∧ e = .returned (.tuple #[.agg #[.int .i64 0, .int .i64 0, .int .i64 0], .int .i64 t])) ∧ Below w.heap.size w w' := by
  have HN := Lib.hid h
  clear h
  go_enter Try.func25, Try.ntmps25
  go_wp2_with fail
  refine (talk_powers_no P Q G H _ 3 [s, k, q] _ ?r1 (by simp) HN.out).mono ?_
  case r1 => exact RowI.three (by simp [go_sem]) (by simp [go_sem]) (by simp [go_sem]) (by simp [go_sem] <;> omega)
  rintro e w1 ⟨⟨t, ht, rfl⟩, hb1⟩
  have hta : (t == 0) = false := by simpa using ht
  have htb : (t != 0) = true := by simpa using ht
  have z1 := hb1.size
  simp at z1
  have r0 := kept hb1 (b := w.heap.size + 1) (o := 0) (v := .int .i64 0) (by simp [go_sem]) (by simp [go_sem] <;> omega)
  have s0 := (froz hb1 (b := w.heap.size + 1) (o := 0) (by simp [go_sem] <;> omega)).trans (show _ = false by simp [go_sem])
  have r1 := kept hb1 (b := w.heap.size + 1) (o := 1) (v := .int .i64 0) (by simp [go_sem]) (by simp [go_sem] <;> omega)
  have s1 := (froz hb1 (b := w.heap.size + 1) (o := 1) (by simp [go_sem] <;> omega)).trans (show _ = false by simp [go_sem])
  have r2 := kept hb1 (b := w.heap.size + 1) (o := 2) (v := .int .i64 0) (by simp [go_sem]) (by simp [go_sem] <;> omega)
  have s2 := (froz hb1 (b := w.heap.size + 1) (o := 2) (by simp [go_sem] <;> omega)).trans (show _ = false by simp [go_sem])
  go_wp2
  refine bodyPost_ret (v := .tuple #[.agg #[.int .i64 0, .int .i64 0, .int .i64 0], .int .i64 t]) ?_ rfl ?_
  · simp [results, Try.f25, go_sem, r0, r1, r2]
  · exact ⟨⟨t, ht, rfl⟩, (((below_two ((((Below.refl _ _).alloc (Nat.le_refl _) _).alloc (by simp <;> omega) _).alloc (by simp <;> omega) _) hb1).setCell (by simp) _).setCell (by simp) _).setCell (by simp) _⟩
/-- what Check asks -/
theorem said_one {P Q y f q v : Int} : saidB P Q y [(f, q, v)] = true ↔ ((0 ≤ q ∧ q < Q) ∧ (0 ≤ v ∧ v < Q)) ∧ memB P Q y = true ∧ memB P Q f = true := by simp [saidB, powsB]
def ChkPost (P Q G y f q v : Int) (w : World) (e : Ending) (w' : World) : Prop :=
  ((saidB P Q y [(f, q, v)] = true ∧ e = .returned (.tuple #[.bool (rightB P G y f q v), .int .i64 0])) ∨ (saidB P Q y [(f, q, v)] = false ∧ ∃ t : Int, ¬ t = 0 ∧ e = .returned (.tuple #[.bool false, .int .i64 t]))) ∧ Below w.heap.size w w'
set_option maxHeartbeats 1600000 in
theorem talk_Check (P Q G H y f q v : Int) (w : World) (hg : grpE P Q G H = 0) :
    Calls Try.prog 27 #[.agg #[.int .i64 P, .int .i64 Q, .int .i64 G, .int .i64 H], .int .i64 y, .agg #[.int .i64 f, .int .i64 q, .int .i64 v]] w (ChkPost P Q G y f q v w) := by
  have HG := Lib.hid hg
  have ⟨⟨g1, g2, g3, g4, g5, _⟩, _⟩ := grpE_zero hg
  clear hg
  go_enter Try.func27, Try.ntmps27
  go_wp2_with fail
  refine (talk_said P Q G H y _ 1 [(f, q, v)] _ ?r1 (by simp) HG.out).mono ?_
  case r1 => exact RowT.one (by simp [go_sem]) (by simp [go_sem]) (by simp [go_sem]) (by simp [go_sem] <;> omega)
  rintro e w1 ⟨⟨hs, rfl⟩ | ⟨hs, t, ht, rfl⟩, hb1⟩
  · have HS := Lib.hid hs
    obtain ⟨⟨hq, hv⟩, hy, hf⟩ := said_one.1 hs
    obtain ⟨f1, f2, _⟩ := memB_iff.1 hf
    have HR := Lib.hid (fun w => talk_right P Q G H y f q v w (by omega) g2 ⟨by omega, f2⟩ ⟨hq.1, by omega⟩ ⟨hv.1, by omega⟩)
    clear hs hy hf
    have z1 := hb1.size
    simp at z1
    have k0 := kept hb1 (b := w.heap.size) (o := 0) (v := .int .i64 P) (by simp [go_sem]) (by simp [go_sem] <;> omega)
    have k1 := kept hb1 (b := w.heap.size) (o := 1) (v := .int .i64 Q) (by simp [go_sem]) (by simp [go_sem] <;> omega)
    have k2 := kept hb1 (b := w.heap.size) (o := 2) (v := .int .i64 G) (by simp [go_sem]) (by simp [go_sem] <;> omega)
    have k3 := kept hb1 (b := w.heap.size) (o := 3) (v := .int .i64 H) (by simp [go_sem]) (by simp [go_sem] <;> omega)
    have c0 := kept hb1 (b := w.heap.size + 1) (o := 0) (v := .int .i64 f) (by simp [go_sem]) (by simp [go_sem] <;> omega)
    have c1 := kept hb1 (b := w.heap.size + 1) (o := 1) (v := .int .i64 q) (by simp [go_sem]) (by simp [go_sem] <;> omega)
    have c2 := kept hb1 (b := w.heap.size + 1) (o := 2) (v := .int .i64 v) (by simp [go_sem]) (by simp [go_sem] <;> omega)
    go_wp2_with fail
    refine (HR.out _).mono ?_
    rintro e w2 ⟨rfl, hb2⟩
    go_wp2
    go_ret2
    exact ⟨.inl ⟨HS.out, rfl⟩, below_two (below_two ((((Below.refl _ _).alloc (Nat.le_refl _) _).alloc (by simp <;> omega) _).alloc (by simp <;> omega) _) hb1) hb2⟩
  · have HS := Lib.hid hs
    have hta : (t == 0) = false := by simpa using ht
    have htb : (t != 0) = true := by simpa using ht
    clear hs
    go_wp2
    go_ret2
    exact ⟨.inr ⟨HS.out, t, ht, rfl⟩, below_two ((((Below.refl _ _).alloc (Nat.le_refl _) _).alloc (by simp <;> omega) _).alloc (by simp <;> omega) _) hb1⟩
end Go.Proofs.Ytgmkmlfppblpfaa

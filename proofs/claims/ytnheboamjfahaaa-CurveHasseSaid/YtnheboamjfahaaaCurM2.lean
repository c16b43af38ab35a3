/- Plain: a sum is a spot of the curve, and does not hang on which comes first. -/
import Derived.Test.YtnheboamjfahaaaCurM
namespace Go.Proofs.Ytnheboamjfahaaa
set_option linter.unusedVariables false
set_option linter.unusedSimpArgs false
theorem ndvd_small {N : Nat} {a : Int} (h1 : 0 < a) (h2 : a < N) : ¬ (N : Int) ∣ a := fun h => by have := Int.le_of_dvd h1 h; omega
theorem two_ndvd {N : Nat} (hp : M.Pr N) (h5 : 5 ≤ N) {y : Int} (h : (N : Int) ∣ 2 * y) : (N : Int) ∣ y := by
  rcases hp.dvd_mul_int h with h | h
  · exact absurd h (ndvd_small (by omega) (by omega))
  · exact h
theorem sp_ext {s t : Sp} (h1 : s.x = t.x) (h2 : s.y = t.y) (h3 : s.far = t.far) : s = t := by
  cases s; cases t; simp only at h1 h2 h3; subst h1; subst h2; subst h3; rfl
/-- a spot that is its own other side -/
theorem self_neg {N : Nat} {A B : Int} (h1 : 1 ≤ N) {s : Sp} (h : OnC N A B s) (hd : (N : Int) ∣ s.y) (hf : s.far = false) : s = negS N s := by
  rcases h with ⟨h, _⟩ | ⟨_, _, _, h5, h6, _⟩
  · rw [hf] at h; cases h
  · refine sp_ext rfl ?_ rfl
    show s.y = (-s.y) % N
    refine rng_eq h5 h6 (Int.emod_nonneg _ (by omega)) (Int.emod_lt_of_pos _ (by omega)) ?_
    have e := emod_dvd (-s.y) N
    have := Int.dvd_sub (Int.dvd_sub hd (Int.dvd_neg.2 hd)) e
    rw [show s.y - -s.y - ((-s.y) % (N : Int) - -s.y) = s.y - (-s.y) % N by omega] at this
    exact this
/-- two spots with the same first coordinate -/
theorem same_x {N : Nat} (hp : M.Pr N) {A B : Int} {s t : Sp} (hs : OnC N A B s) (ht : OnC N A B t) (fs : s.far = false) (ft : t.far = false) (hx : s.x = t.x) : s = t ∨ s = negS N t := by
  have h2 := hp.1
  rcases hs with ⟨h, _⟩ | ⟨_, _, _, s5, s6, s7⟩
  · rw [fs] at h; cases h
  · rcases ht with ⟨h, _⟩ | ⟨_, _, _, t5, t6, t7⟩
    · rw [ft] at h; cases h
    · have hd := Int.dvd_sub s7 t7
      rw [hx, show s.y * s.y - (t.x * t.x * t.x + A * t.x + B) - (t.y * t.y - (t.x * t.x * t.x + A * t.x + B)) = (s.y - t.y) * (s.y + t.y) by grind] at hd
      rcases hp.dvd_mul_int hd with h | h
      · exact .inl (sp_ext hx (rng_eq s5 s6 t5 t6 h) (fs.trans ft.symm))
      · refine .inr (sp_ext hx ?_ (fs.trans ft.symm))
        show s.y = (-t.y) % N
        refine rng_eq s5 s6 (Int.emod_nonneg _ (by omega)) (Int.emod_lt_of_pos _ (by omega)) ?_
        have e := emod_dvd (-t.y) N
        have := Int.dvd_sub h e
        rw [show s.y + t.y - ((-t.y) % (N : Int) - -t.y) = s.y - (-t.y) % N by omega] at this
        exact this
theorem OnC.add {N : Nat} (hp : M.Pr N) (h5 : 5 ≤ N) {A B : Int} {s t : Sp} (hs : OnC N A B s) (ht : OnC N A B t) : OnC N A B (addS N A s t) := by
  unfold addS
  by_cases fs : s.far = true
  · rw [if_pos fs]; exact ht
  rw [if_neg fs]
  by_cases ft : t.far = true
  · rw [if_pos ft]; exact hs
  rw [if_neg ft]
  by_cases hn : s = negS N t
  · rw [if_pos hn]; exact OnC.farS N A B
  rw [if_neg hn]
  have fs' : s.far = false := by simpa using fs
  have ft' : t.far = false := by simpa using ft
  obtain ⟨k, hk⟩ : ∃ k, slope N A s t = k := ⟨_, rfl⟩
  have hg : (N : Int) ∣ t.x * t.x + t.x * s.x + s.x * s.x - k * k * (t.x + s.x) + (A + 2 * k * k * s.x - 2 * k * s.y) := by
    unfold slope at hk
    by_cases e : s = t
    · rw [if_pos e] at hk
      subst e
      have hb : ¬ (N : Int) ∣ 2 * s.y := fun h => hn (self_neg (by omega) hs (two_ndvd hp h5 h) fs')
      have := Int.dvd_neg.2 (ovr_spec hp (3 * s.x * s.x + A) hb)
      rw [hk] at this
      rwa [show -(k * (2 * s.y) - (3 * s.x * s.x + A)) = s.x * s.x + s.x * s.x + s.x * s.x - k * k * (s.x + s.x) + (A + 2 * k * k * s.x - 2 * k * s.y) by grind] at this
    · rw [if_neg e] at hk
      rcases hs with ⟨h, _⟩ | ⟨_, s3, s4, s5, s6, s7⟩
      · rw [fs'] at h; cases h
      · rcases ht with ⟨h, _⟩ | ⟨_, t3, t4, t5, t6, t7⟩
        · rw [ft'] at h; cases h
        · have hb : ¬ (N : Int) ∣ t.x - s.x := fun h => by
            have hx : t.x = s.x := rng_eq t3 t4 s3 s4 h
            rcases same_x hp (.inr ⟨fs', s3, s4, s5, s6, s7⟩) (.inr ⟨ft', t3, t4, t5, t6, t7⟩) fs' ft' hx.symm with h | h
            · exact e h
            · exact hn h
          have hm := ovr_spec hp (t.y - s.y) hb
          rw [hk] at hm
          have hd : (N : Int) ∣ (t.x - s.x) * (t.x * t.x + t.x * s.x + s.x * s.x - k * k * (t.x + s.x) + (A + 2 * k * k * s.x - 2 * k * s.y)) := by
            obtain ⟨m, hm⟩ := hm
            obtain ⟨q, hq⟩ := s7
            obtain ⟨r, hr⟩ := t7
            refine ⟨q - r - m * (k * (t.x - s.x) + s.y + t.y), ?_⟩
            have e1 : (t.x - s.x) * (t.x * t.x + t.x * s.x + s.x * s.x - k * k * (t.x + s.x) + (A + 2 * k * k * s.x - 2 * k * s.y)) = (s.y * s.y - (s.x * s.x * s.x + A * s.x + B)) - (t.y * t.y - (t.x * t.x * t.x + A * t.x + B)) - (k * (t.x - s.x) - (t.y - s.y)) * (k * (t.x - s.x) + s.y + t.y) := by grind
            rw [e1, hq, hr, hm]
            grind
          rcases hp.dvd_mul_int hd with h | h
          · exact absurd h hb
          · exact h
  have h7 : (N : Int) ∣ s.y * s.y - (s.x * s.x * s.x + A * s.x + B) := by
    rcases hs with ⟨h, _⟩ | ⟨_, _, _, _, _, s7⟩
    · rw [fs'] at h; cases h
    · exact s7
  rw [hk]
  have hx3 := emod_dvd (k * k - s.x - t.x) N
  obtain ⟨x3, he⟩ : ∃ x3, sumX N k s t = x3 := ⟨_, rfl⟩
  have he' : (k * k - s.x - t.x) % (N : Int) = x3 := he
  rw [he'] at hx3
  rw [he]
  refine .inr ⟨rfl, ?_, ?_, Int.emod_nonneg _ (by omega), Int.emod_lt_of_pos _ (by omega), ?_⟩
  · show 0 ≤ x3; rw [← he']; exact Int.emod_nonneg _ (by omega)
  · show x3 < N; rw [← he']; exact Int.emod_lt_of_pos _ (by omega)
  · show (N : Int) ∣ (k * (s.x - x3) - s.y) % N * ((k * (s.x - x3) - s.y) % N) - (x3 * x3 * x3 + A * x3 + B)
    have hc := chord hg h7 hx3
    obtain ⟨q, hq⟩ := emod_dvd (k * (s.x - x3) - s.y) N
    obtain ⟨z, hz⟩ : ∃ z, (k * (s.x - x3) - s.y) % (N : Int) = z := ⟨_, rfl⟩
    rw [hz] at hq ⊢
    obtain ⟨r, hr⟩ := hc
    refine ⟨r + q * (z + (k * (s.x - x3) - s.y)), ?_⟩
    have e : z * z - (x3 * x3 * x3 + A * x3 + B) = (k * (s.x - x3) - s.y) * (k * (s.x - x3) - s.y) - (x3 * x3 * x3 + A * x3 + B) + (z - (k * (s.x - x3) - s.y)) * (z + (k * (s.x - x3) - s.y)) := by grind
    rw [e, hr, hq]
    grind
theorem neg_iff {N : Nat} (h1 : 1 ≤ N) {A B : Int} {s t : Sp} (hs : OnC N A B s) (ht : OnC N A B t) : s = negS N t ↔ t = negS N s := by
  constructor
  · intro h; rw [h, neg_neg ht h1]
  · intro h; rw [h, neg_neg hs h1]
theorem add_comm {N : Nat} (hp : M.Pr N) (h5 : 5 ≤ N) {A B : Int} {s t : Sp} (hs : OnC N A B s) (ht : OnC N A B t) : addS N A s t = addS N A t s := by
  unfold addS
  by_cases fs : s.far = true
  · rw [if_pos fs]
    by_cases ft : t.far = true
    · rw [if_pos ft, hs.far_eq fs, ht.far_eq ft]
    · rw [if_neg ft, if_pos fs]
  rw [if_neg fs]
  by_cases ft : t.far = true
  · rw [if_pos ft, if_pos ft]
  rw [if_neg ft, if_neg ft, if_neg fs]
  by_cases hn : s = negS N t
  · rw [if_pos hn, if_pos ((neg_iff (by omega) hs ht).1 hn)]
  rw [if_neg hn, if_neg (fun h => hn ((neg_iff (by omega) hs ht).2 h))]
  have fs' : s.far = false := by simpa using fs
  have ft' : t.far = false := by simpa using ft
  by_cases e : s = t
  · subst e; rfl
  have hx : t.x ≠ s.x := fun h => by
    rcases same_x hp hs ht fs' ft' h.symm with h | h
    · exact e h
    · exact hn h
  have hb : ¬ (N : Int) ∣ t.x - s.x := fun h => by
    rcases hs with ⟨h, _⟩ | ⟨_, s3, s4, s5, s6, s7⟩
    · rw [fs'] at h; cases h
    · rcases ht with ⟨h, _⟩ | ⟨_, t3, t4, t5, t6, t7⟩
      · rw [ft'] at h; cases h
      · exact hx (rng_eq t3 t4 s3 s4 h)
  have hb2 : ¬ (N : Int) ∣ s.x - t.x := fun h => hb (by have := Int.dvd_neg.2 h; rwa [show -(s.x - t.x) = t.x - s.x by omega] at this)
  have r := ovr_rng (show 1 ≤ N by omega) (t.y - s.y) (t.x - s.x)
  have hm := ovr_spec hp (t.y - s.y) hb
  have hk : slope N A t s = slope N A s t := by
    unfold slope
    rw [if_neg e, if_neg (fun h => e h.symm)]
    refine (ovr_uniq hp hb2 r.1 r.2 ?_).symm
    have := Int.dvd_neg.2 hm
    rwa [show -(ovr N (t.y - s.y) (t.x - s.x) * (t.x - s.x) - (t.y - s.y)) = ovr N (t.y - s.y) (t.x - s.x) * (s.x - t.x) - (s.y - t.y) by grind] at this
  have hk2 : slope N A s t = ovr N (t.y - s.y) (t.x - s.x) := by unfold slope; rw [if_neg e]
  rw [hk]
  rw [← hk2] at hm
  obtain ⟨k, hke⟩ : ∃ k, slope N A s t = k := ⟨_, rfl⟩
  rw [hke] at hm ⊢
  have hsx : sumX N k t s = sumX N k s t := by unfold sumX; congr 1; omega
  rw [hsx]
  obtain ⟨x, hxe⟩ : ∃ x, sumX N k s t = x := ⟨_, rfl⟩
  rw [hxe]
  refine sp_ext rfl ?_ rfl
  show (k * (s.x - x) - s.y) % (N : Int) = (k * (t.x - x) - t.y) % N
  refine Int.emod_eq_emod_iff_emod_sub_eq_zero.2 (Int.emod_eq_zero_of_dvd ?_)
  have := Int.dvd_neg.2 hm
  rwa [show -(k * (t.x - s.x) - (t.y - s.y)) = k * (s.x - x) - s.y - (k * (t.x - x) - t.y) by grind] at this
theorem add_far {N : Nat} {A B : Int} {s : Sp} (hs : OnC N A B s) : addS N A s farS = s := by
  unfold addS
  by_cases fs : s.far = true
  · rw [if_pos fs]; exact (hs.far_eq fs).symm
  · rw [if_neg fs, if_pos (show farS.far = true from rfl)]
theorem add_neg {N : Nat} (h1 : 1 ≤ N) {A B : Int} {s : Sp} (hs : OnC N A B s) : addS N A s (negS N s) = farS := by
  unfold addS
  by_cases fs : s.far = true
  · rw [if_pos fs, hs.far_eq fs]
    exact sp_ext rfl (by show (-0 : Int) % _ = 0; simp) rfl
  · rw [if_neg fs, if_neg (show ¬ (negS N s).far = true from fs), if_pos (neg_neg hs h1).symm]
end Go.Proofs.Ytnheboamjfahaaa

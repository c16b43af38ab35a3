/- Plain: the sum of spots does not hang on brackets. -/
import Derived.Test.YtnheboamjfahaaaCurM2
namespace Go.Proofs.Ytnheboamjfahaaa
set_option linter.unusedVariables false
set_option linter.unusedSimpArgs false
theorem dm {N a : Int} (h : N ∣ a) (c : Int) : N ∣ c * a := Int.dvd_trans h (Int.dvd_mul_left _ _)
theorem dv1 {N E a : Int} (ha : N ∣ a) (x : Int) (h : E = x * a) : N ∣ E := by rw [h]; exact dm ha _
theorem dv2 {N E a b : Int} (ha : N ∣ a) (hb : N ∣ b) (x y : Int) (h : E = x * a + y * b) : N ∣ E := by rw [h]; exact Int.dvd_add (dm ha _) (dm hb _)
theorem dv3 {N E a b c : Int} (ha : N ∣ a) (hb : N ∣ b) (hc : N ∣ c) (x y z : Int) (h : E = x * a + y * b + z * c) : N ∣ E := by
  rw [h]; exact Int.dvd_add (Int.dvd_add (dm ha _) (dm hb _)) (dm hc _)
theorem dv4 {N E a b c d : Int} (ha : N ∣ a) (hb : N ∣ b) (hc : N ∣ c) (hd : N ∣ d) (x y z u : Int) (h : E = x * a + y * b + z * c + u * d) : N ∣ E := by
  rw [h]; exact Int.dvd_add (Int.dvd_add (Int.dvd_add (dm ha _) (dm hb _)) (dm hc _)) (dm hd _)
theorem as_E1 {N h l v a d c e s t m r : Int} (r1 : N ∣ a+d+s-l*l) (r2 : N ∣ a*d+2*l*h-t) (r3 : N ∣ c+e+s-v*v) (r4 : N ∣ c*e+2*v*h-t) (m1 : N ∣ m*(c-d)-(2*h+v*c+l*d)) (n1 : N ∣ r*(a-e)-(2*h+v*e+l*a)) : N ∣ (c-d)*((a-e)*(l+m-v-r)) := by
  have e : (c-d)*((a-e)*(l+m-v-r)) = (2*h)*(a+d+s-l*l) + (l + v)*(a*d+2*l*h-t) + (-2*h)*(c+e+s-v*v) + (-l - v)*(c*e+2*v*h-t) + (a - e)*(m*(c-d)-(2*h+v*c+l*d)) + (-c + d)*(r*(a-e)-(2*h+v*e+l*a)) := by clear r1 r2 r3 r4 m1 n1; grind
  rw [e]; exact Int.dvd_add (Int.dvd_add (Int.dvd_add (Int.dvd_add (Int.dvd_add (dm r1 _) (dm r2 _)) (dm r3 _)) (dm r4 _)) (dm m1 _)) (dm n1 _)
theorem as_E2 {N h l v a d c e s t m r : Int} (r1 : N ∣ a+d+s-l*l) (r2 : N ∣ a*d+2*l*h-t) (r3 : N ∣ c+e+s-v*v) (r4 : N ∣ c*e+2*v*h-t) (m2 : N ∣ m*(v*c-l*d)-(c*c+c*d+d*d+s*(c+d)+t)) (n1 : N ∣ r*(a-e)-(2*h+v*e+l*a)) : N ∣ (v*c-l*d)*((a-e)*(l+m-v-r)) := by
  have e : (v*c-l*d)*((a-e)*(l+m-v-r)) = (a*d - c*e - d*e + 2*h*l)*(a+d+s-l*l) + (-a + c + e + (l*l) + l*v)*(a*d+2*l*h-t) + (a*c - 2*h*l)*(c+e+s-v*v) + (-c - (l*l) - l*v)*(c*e+2*v*h-t) + (a - e)*(m*(v*c-l*d)-(c*c+c*d+d*d+s*(c+d)+t)) + (-c*v + d*l)*(r*(a-e)-(2*h+v*e+l*a)) := by clear r1 r2 r3 r4 m2 n1; grind
  rw [e]; exact Int.dvd_add (Int.dvd_add (Int.dvd_add (Int.dvd_add (Int.dvd_add (dm r1 _) (dm r2 _)) (dm r3 _)) (dm r4 _)) (dm m2 _)) (dm n1 _)
theorem as_E3 {N h l v a d c e s t m r : Int} (r1 : N ∣ a+d+s-l*l) (r2 : N ∣ a*d+2*l*h-t) (r3 : N ∣ c+e+s-v*v) (r4 : N ∣ c*e+2*v*h-t) (m1 : N ∣ m*(c-d)-(2*h+v*c+l*d)) (n2 : N ∣ r*(l*a-v*e)-(a*a+a*e+e*e+s*(a+e)+t)) : N ∣ (c-d)*((l*a-v*e)*(l+m-v-r)) := by
  have e : (c-d)*((l*a-v*e)*(l+m-v-r)) = (-a*c + 2*h*v)*(a+d+s-l*l) + (a + l*v + (v*v))*(a*d+2*l*h-t) + (a*d - c*e + d*e - 2*h*v)*(c+e+s-v*v) + (-a + c - d - l*v - (v*v))*(c*e+2*v*h-t) + (a*l - e*v)*(m*(c-d)-(2*h+v*c+l*d)) + (-c + d)*(r*(l*a-v*e)-(a*a+a*e+e*e+s*(a+e)+t)) := by clear r1 r2 r3 r4 m1 n2; grind
  rw [e]; exact Int.dvd_add (Int.dvd_add (Int.dvd_add (Int.dvd_add (Int.dvd_add (dm r1 _) (dm r2 _)) (dm r3 _)) (dm r4 _)) (dm m1 _)) (dm n2 _)
theorem as_E4 {N h l v a d c e s t m r : Int} (r1 : N ∣ a+d+s-l*l) (r2 : N ∣ a*d+2*l*h-t) (r3 : N ∣ c+e+s-v*v) (r4 : N ∣ c*e+2*v*h-t) (m2 : N ∣ m*(v*c-l*d)-(c*c+c*d+d*d+s*(c+d)+t)) (n2 : N ∣ r*(l*a-v*e)-(a*a+a*e+e*e+s*(a+e)+t)) : N ∣ (v*c-l*d)*((l*a-v*e)*(l+m-v-r)) := by
  have e : (v*c-l*d)*((l*a-v*e)*(l+m-v-r)) = (-a*c*v + a*d*l - c*e*v - d*e*v + 2*h*l*v)*(a+d+s-l*l) + (c*v + e*v + (l*l)*v + l*(v*v))*(a*d+2*l*h-t) + (a*c*l + a*d*l - c*e*v + d*e*l - 2*h*l*v)*(c+e+s-v*v) + (-a*l - d*l - (l*l)*v - l*(v*v))*(c*e+2*v*h-t) + (a*l - e*v)*(m*(v*c-l*d)-(c*c+c*d+d*d+s*(c+d)+t)) + (-c*v + d*l)*(r*(l*a-v*e)-(a*a+a*e+e*e+s*(a+e)+t)) := by clear r1 r2 r3 r4 m2 n2; grind
  rw [e]; exact Int.dvd_add (Int.dvd_add (Int.dvd_add (Int.dvd_add (Int.dvd_add (dm r1 _) (dm r2 _)) (dm r3 _)) (dm r4 _)) (dm m2 _)) (dm n2 _)
theorem as_X1 {N h l v a d c e s t m : Int} (r1 : N ∣ a+d+s-l*l) (r2 : N ∣ a*d+2*l*h-t) (r3 : N ∣ c+e+s-v*v) (r4 : N ∣ c*e+2*v*h-t) (m1 : N ∣ m*(c-d)-(2*h+v*c+l*d)) : N ∣ (c-d)*(m*m-c-d-(l+m-v)*(l+m-v)+a+e) := by
  have e : (c-d)*(m*m-c-d-(l+m-v)*(l+m-v)+a+e) = (c + d)*(a+d+s-l*l) + (-2)*(a*d+2*l*h-t) + (-c - d)*(c+e+s-v*v) + (2)*(c*e+2*v*h-t) + (-2*l + 2*v)*(m*(c-d)-(2*h+v*c+l*d)) := by clear r1 r2 r3 r4 m1; grind
  rw [e]; exact Int.dvd_add (Int.dvd_add (Int.dvd_add (Int.dvd_add (dm r1 _) (dm r2 _)) (dm r3 _)) (dm r4 _)) (dm m1 _)
theorem as_X2 {N h l v a d c e s t m : Int} (r1 : N ∣ a+d+s-l*l) (r2 : N ∣ a*d+2*l*h-t) (r3 : N ∣ c+e+s-v*v) (r4 : N ∣ c*e+2*v*h-t) (m2 : N ∣ m*(v*c-l*d)-(c*c+c*d+d*d+s*(c+d)+t)) : N ∣ (v*c-l*d)*(m*m-c-d-(l+m-v)*(l+m-v)+a+e) := by
  have e : (v*c-l*d)*(m*m-c-d-(l+m-v)*(l+m-v)+a+e) = (c*v - d*l + 2*d*v)*(a+d+s-l*l) + (-2*v)*(a*d+2*l*h-t) + (-2*c*l + c*v - d*l)*(c+e+s-v*v) + (2*l)*(c*e+2*v*h-t) + (-2*l + 2*v)*(m*(v*c-l*d)-(c*c+c*d+d*d+s*(c+d)+t)) := by clear r1 r2 r3 r4 m2; grind
  rw [e]; exact Int.dvd_add (Int.dvd_add (Int.dvd_add (Int.dvd_add (dm r1 _) (dm r2 _)) (dm r3 _)) (dm r4 _)) (dm m2 _)
theorem as_Y1 {N h l v a d c e s t m : Int} (r1 : N ∣ a+d+s-l*l) (r2 : N ∣ a*d+2*l*h-t) (r3 : N ∣ c+e+s-v*v) (r4 : N ∣ c*e+2*v*h-t) (m1 : N ∣ m*(c-d)-(2*h+v*c+l*d)) : N ∣ (c-d)*((c-d)*(m*(c-(m*m-s-c-d))-v*c-(l+m-v)*(a-(m*m-s-c-d))+l*a)) := by
  have e : (c-d)*((c-d)*(m*(c-(m*m-s-c-d))-v*c-(l+m-v)*(a-(m*m-s-c-d))+l*a)) = (-2*c*d*v - 2*c*h - (d*d)*l + (d*d)*v)*(a+d+s-l*l) + (-c*l + c*v + 2*d*l + 2*h)*(a*d+2*l*h-t) + (-(c*c)*l + (c*c)*v + 2*c*d*l + 2*c*h)*(c+e+s-v*v) + (c*l - c*v - 2*d*l - 2*h)*(c*e+2*v*h-t) + (-a*c + a*d + (c*c) - c*d + c*l*m + c*l*v - c*m*v - c*(v*v) + d*(l*l) - d*l*m - d*l*v + d*m*v + 2*h*l - 2*h*v)*(m*(c-d)-(2*h+v*c+l*d)) := by clear r1 r2 r3 r4 m1; grind
  rw [e]; exact Int.dvd_add (Int.dvd_add (Int.dvd_add (Int.dvd_add (dm r1 _) (dm r2 _)) (dm r3 _)) (dm r4 _)) (dm m1 _)
theorem as_Y2 {N h l v a d c e s t m : Int} (r1 : N ∣ a+d+s-l*l) (r2 : N ∣ a*d+2*l*h-t) (r3 : N ∣ c+e+s-v*v) (r4 : N ∣ c*e+2*v*h-t) (m2 : N ∣ m*(v*c-l*d)-(c*c+c*d+d*d+s*(c+d)+t)) : N ∣ (v*c-l*d)*((v*c-l*d)*(m*(c-(m*m-s-c-d))-v*c-(l+m-v)*(a-(m*m-s-c-d))+l*a)) := by
  have e : (v*c-l*d)*((v*c-l*d)*(m*(c-(m*m-s-c-d))-v*c-(l+m-v)*(a-(m*m-s-c-d))+l*a)) = (-a*c*d*l + a*c*d*v + a*(d*d)*v + (c*c*c)*l - (c*c*c)*v + 2*(c*c)*d*l - 2*(c*c)*d*v + (c*c)*l*s - (c*c)*l*(v*v) - (c*c)*s*v + (c*c)*(v*v*v) + c*(d*d)*l - 2*c*(d*d)*v + 2*c*d*l*s - 2*c*d*l*(v*v) - 2*c*d*s*v - 2*c*h*(l*l) + 2*c*l*t - 2*c*t*v + (d*d*d)*l - (d*d*d)*v + (d*d)*l*s - (d*d)*s*v + 2*d*l*t - 2*d*t*v)*(a+d+s-l*l) + (a*c*l - a*c*v - a*d*v - (c*c)*l + (c*c)*v + c*d*l - c*(l*l*l) + c*(l*l)*v + 2*d*(l*l)*v + 2*h*l*v - l*t + t*v)*(a*d+2*l*h-t) + (-a*(c*c)*l + (c*c*c)*l + (c*c)*(l*l*l) - (c*c)*(l*l)*v + 2*c*d*(l*l*l) + 2*c*h*(l*l))*(c+e+s-v*v) + (a*c*l - (c*c)*l - c*(l*l*l) + c*(l*l)*v - 2*d*(l*l*l) - 2*h*(l*l))*(c*e+2*v*h-t) + (-a*c*v + a*d*l + (c*c)*l - c*d*v + c*l*m*v + c*l*s - c*m*(v*v) - c*s*v + (d*d)*l - (d*d)*v - d*(l*l)*m + d*l*m*v + d*l*s - d*s*v + l*t - t*v)*(m*(v*c-l*d)-(c*c+c*d+d*d+s*(c+d)+t)) := by clear r1 r2 r3 r4 m2; grind
  rw [e]; exact Int.dvd_add (Int.dvd_add (Int.dvd_add (Int.dvd_add (dm r1 _) (dm r2 _)) (dm r3 _)) (dm r4 _)) (dm m2 _)
/-- what two lines' slopes have to do with each other -/
theorem as_sigma {N : Nat} (hp : M.Pr N) {h l v a d c e s t m r : Int} (r1 : (N : Int) ∣ a+d+s-l*l) (r2 : (N : Int) ∣ a*d+2*l*h-t) (r3 : (N : Int) ∣ c+e+s-v*v) (r4 : (N : Int) ∣ c*e+2*v*h-t)
    (m1 : (N : Int) ∣ m*(c-d)-(2*h+v*c+l*d)) (m2 : (N : Int) ∣ m*(v*c-l*d)-(c*c+c*d+d*d+s*(c+d)+t)) (n1 : (N : Int) ∣ r*(a-e)-(2*h+v*e+l*a)) (n2 : (N : Int) ∣ r*(l*a-v*e)-(a*a+a*e+e*e+s*(a+e)+t))
    (hm : ¬ (N : Int) ∣ c - d ∨ ¬ (N : Int) ∣ v*c-l*d) (hn : ¬ (N : Int) ∣ a - e ∨ ¬ (N : Int) ∣ l*a-v*e) : (N : Int) ∣ l+m-v-r := by
  have k1 : (N : Int) ∣ (a-e)*(l+m-v-r) := by
    rcases hm with hm | hm
    · exact (hp.dvd_mul_int (as_E1 r1 r2 r3 r4 m1 n1)).resolve_left hm
    · exact (hp.dvd_mul_int (as_E2 r1 r2 r3 r4 m2 n1)).resolve_left hm
  have k2 : (N : Int) ∣ (l*a-v*e)*(l+m-v-r) := by
    rcases hm with hm | hm
    · exact (hp.dvd_mul_int (as_E3 r1 r2 r3 r4 m1 n2)).resolve_left hm
    · exact (hp.dvd_mul_int (as_E4 r1 r2 r3 r4 m2 n2)).resolve_left hm
  rcases hn with hn | hn
  · exact (hp.dvd_mul_int k1).resolve_left hn
  · exact (hp.dvd_mul_int k2).resolve_left hn
def Aff (N : Nat) (A B : Int) (s : Sp) : Prop := s.far = false ∧ 0 ≤ s.x ∧ s.x < N ∧ 0 ≤ s.y ∧ s.y < N ∧ (N : Int) ∣ s.y * s.y - (s.x * s.x * s.x + A * s.x + B)
theorem OnC.cases {N : Nat} {A B : Int} {s : Sp} (h : OnC N A B s) : s = Go.Proofs.Ytnheboamjfahaaa.farS ∨ Aff N A B s := by
  cases hf : s.far with
  | true => exact .inl (h.far_eq hf)
  | false =>
    rcases h with ⟨h1, _⟩ | h
    · rw [hf] at h1; cases h1
    · exact .inr h
theorem Aff.on {N : Nat} {A B : Int} {s : Sp} (h : Aff N A B s) : OnC N A B s := .inr h
theorem Aff.ext {N : Nat} {A B : Int} {s t : Sp} (hs : Aff N A B s) (ht : Aff N A B t) (hx : (N : Int) ∣ s.x - t.x) (hy : (N : Int) ∣ s.y - t.y) : s = t :=
  sp_ext (rng_eq hs.2.1 hs.2.2.1 ht.2.1 ht.2.2.1 hx) (rng_eq hs.2.2.2.1 hs.2.2.2.2.1 ht.2.2.2.1 ht.2.2.2.2.1 hy) (hs.1.trans ht.1.symm)
theorem Aff.neg {N : Nat} (h1 : 1 ≤ N) {A B : Int} {s : Sp} (h : Aff N A B s) : Aff N A B (negS N s) := by
  rcases (OnC.neg h1 h.on).cases with e | e
  · have h1 := h.1; have h2 : (negS N s).far = true := by rw [e]; rfl
    rw [show (negS N s).far = s.far from rfl, h1] at h2; cases h2
  · exact e
/-- the line through two spots -/
def Ln (N : Nat) (A k : Int) (s t : Sp) : Prop := (N : Int) ∣ k * (t.x - s.x) - (t.y - s.y) ∧ (N : Int) ∣ k * (s.y + t.y) - (s.x * s.x + s.x * t.x + t.x * t.x + A)
theorem nd {N : Nat} {A B : Int} {s t : Sp} (h1 : 1 ≤ N) (hs : Aff N A B s) (ht : Aff N A B t) (hn : s ≠ negS N t) : ¬ (N : Int) ∣ t.x - s.x ∨ ¬ (N : Int) ∣ s.y + t.y := by
  refine Decidable.byContradiction fun hc => hn ?_
  have hc' : (N : Int) ∣ t.x - s.x ∧ (N : Int) ∣ s.y + t.y := ⟨Decidable.byContradiction fun h => hc (.inl h), Decidable.byContradiction fun h => hc (.inr h)⟩
  refine Aff.ext hs (ht.neg h1) ?_ ?_
  · show (N : Int) ∣ s.x - t.x
    exact dv1 hc'.1 (-1) (by grind)
  · show (N : Int) ∣ s.y - (-t.y) % N
    exact dv2 hc'.2 (emod_dvd (-t.y) N) 1 (-1) (by grind)
theorem slope_ln {N : Nat} (hp : M.Pr N) (h5 : 5 ≤ N) {A B : Int} {s t : Sp} (hs : Aff N A B s) (ht : Aff N A B t) (hn : s ≠ negS N t) : Ln N A (slope N A s t) s t := by
  obtain ⟨k, hk⟩ : ∃ k, slope N A s t = k := ⟨_, rfl⟩
  unfold slope at hk
  by_cases e : s = t
  · rw [if_pos e] at hk
    subst e
    have hb : ¬ (N : Int) ∣ 2 * s.y := fun h => hn (self_neg (by omega) hs.on (two_ndvd hp h5 h) hs.1)
    have := ovr_spec hp (3 * s.x * s.x + A) hb
    rw [hk] at this
    unfold slope; rw [if_pos rfl, hk]
    exact ⟨⟨0, by grind⟩, dv1 this 1 (by clear this hb hn hs ht hk; grind)⟩
  · rw [if_neg e] at hk
    have hb : ¬ (N : Int) ∣ t.x - s.x := fun h => by
      have hx : t.x = s.x := rng_eq ht.2.1 ht.2.2.1 hs.2.1 hs.2.2.1 h
      rcases same_x hp hs.on ht.on hs.1 ht.1 hx.symm with h | h
      · exact e h
      · exact hn h
    have hm := ovr_spec hp (t.y - s.y) hb
    rw [hk] at hm
    unfold slope; rw [if_neg e, hk]
    refine ⟨hm, ?_⟩
    have hd : (N : Int) ∣ (t.x - s.x) * (k * (s.y + t.y) - (s.x * s.x + s.x * t.x + t.x * t.x + A)) :=
      dv3 hm hs.2.2.2.2.2 ht.2.2.2.2.2 (s.y + t.y) (-1) 1 (by clear hm hb hn hs ht hk e; grind)
    exact (hp.dvd_mul_int hd).resolve_left hb
theorem add_aff {N : Nat} {A : Int} {s t : Sp} (hs : s.far = false) (ht : t.far = false) (hn : s ≠ negS N t) :
    addS N A s t = ⟨sumX N (slope N A s t) s t, (slope N A s t * (s.x - sumX N (slope N A s t) s t) - s.y) % N, false⟩ := by
  unfold addS
  rw [if_neg (by rw [hs]; simp), if_neg (by rw [ht]; simp), if_neg hn]
theorem add_fact {N : Nat} (hp : M.Pr N) (h5 : 5 ≤ N) {A B : Int} {s t : Sp} (hs : Aff N A B s) (ht : Aff N A B t) (hn : s ≠ negS N t) :
    ∃ k, Ln N A k s t ∧ Aff N A B (addS N A s t) ∧ (N : Int) ∣ (addS N A s t).x - (k * k - s.x - t.x) ∧ (N : Int) ∣ (addS N A s t).y - (k * (s.x - (addS N A s t).x) - s.y) := by
  refine ⟨slope N A s t, slope_ln hp h5 hs ht hn, ?_, ?_, ?_⟩
  · rcases (OnC.add hp h5 hs.on ht.on).cases with e | e
    · rw [add_aff hs.1 ht.1 hn] at e
      have := congrArg Sp.far e
      cases this
    · exact e
  · rw [add_aff hs.1 ht.1 hn]; exact emod_dvd _ N
  · rw [add_aff hs.1 ht.1 hn]; exact emod_dvd _ N
theorem ln_uniq {N : Nat} (hp : M.Pr N) {A B k j : Int} {s t : Sp} (h1 : 1 ≤ N) (hs : Aff N A B s) (ht : Aff N A B t) (hn : s ≠ negS N t) (hk : Ln N A k s t) (hj : Ln N A j s t) : (N : Int) ∣ k - j := by
  rcases nd h1 hs ht hn with h | h
  · exact (hp.dvd_mul_int (dv2 hk.1 hj.1 1 (-1) (show (t.x - s.x) * (k - j) = _ by grind))).resolve_left h
  · exact (hp.dvd_mul_int (dv2 hk.2 hj.2 1 (-1) (show (s.y + t.y) * (k - j) = _ by grind))).resolve_left h
/-- what a sum is, by any line through both -/
theorem add_spec {N : Nat} (hp : M.Pr N) (h5 : 5 ≤ N) {A B k : Int} {s t u : Sp} (hs : Aff N A B s) (ht : Aff N A B t) (hu : Aff N A B u) (hn : s ≠ negS N t) (hk : Ln N A k s t)
    (hx : (N : Int) ∣ u.x - (k * k - s.x - t.x)) (hy : (N : Int) ∣ u.y - (k * (s.x - u.x) - s.y)) : addS N A s t = u := by
  obtain ⟨j, hj, ha, jx, jy⟩ := add_fact hp h5 hs ht hn
  have hkj := ln_uniq hp (by omega) hs ht hn hk hj
  obtain ⟨p, he⟩ : ∃ p, addS N A s t = p := ⟨_, rfl⟩
  rw [he] at ha jx jy ⊢
  have ex : (N : Int) ∣ p.x - u.x := dv3 jx hx hkj 1 (-1) (-(k + j)) (by grind)
  exact Aff.ext ha hu ex (dv4 jy hy ex hkj 1 (-1) (-j) (-(s.x - u.x)) (by grind))
theorem assoc_xy {N : Nat} (hp : M.Pr N) {A x1 y1 x2 y2 x3 y3 x4 y4 x5 y5 x6 y6 x7 y7 l v m r : Int}
    (lx : (N : Int) ∣ x4 - (l * l - x1 - x2)) (ly : (N : Int) ∣ y4 - (l * (x1 - x4) - y1)) (vx : (N : Int) ∣ x5 - (v * v - x2 - x3)) (vy : (N : Int) ∣ y5 - (v * (x2 - x5) - y2))
    (mx : (N : Int) ∣ x6 - (m * m - x4 - x3)) (my : (N : Int) ∣ y6 - (m * (x4 - x6) - y4)) (rx : (N : Int) ∣ x7 - (r * r - x1 - x5)) (ry : (N : Int) ∣ y7 - (r * (x1 - x7) - y1))
    (d4 : ¬ (N : Int) ∣ x3 - x4 ∨ ¬ (N : Int) ∣ y4 + y3) (d5 : ¬ (N : Int) ∣ x5 - x1 ∨ ¬ (N : Int) ∣ y1 + y5)
    (hl1 : (N : Int) ∣ l * (x2 - x1) - (y2 - y1)) (hl2 : (N : Int) ∣ l * (y1 + y2) - (x1 * x1 + x1 * x2 + x2 * x2 + A))
    (hv1 : (N : Int) ∣ v * (x3 - x2) - (y3 - y2)) (hv2 : (N : Int) ∣ v * (y2 + y3) - (x2 * x2 + x2 * x3 + x3 * x3 + A))
    (hm1 : (N : Int) ∣ m * (x3 - x4) - (y3 - y4)) (hm2 : (N : Int) ∣ m * (y4 + y3) - (x4 * x4 + x4 * x3 + x3 * x3 + A))
    (hr1 : (N : Int) ∣ r * (x5 - x1) - (y5 - y1)) (hr2 : (N : Int) ∣ r * (y1 + y5) - (x1 * x1 + x1 * x5 + x5 * x5 + A)) : (N : Int) ∣ x6 - x7 ∧ (N : Int) ∣ y6 - y7 := by
  have R1 : (N : Int) ∣ (x1-x2)+(x4-x2)+3*x2-l*l := dv1 lx 1 (by grobner)
  have R3 : (N : Int) ∣ (x3-x2)+(x5-x2)+3*x2-v*v := dv1 vx 1 (by grobner)
  have R2 : (N : Int) ∣ (x1-x2)*(x4-x2)+2*l*y2-(3*x2*x2+A) := dv3 hl2 hl1 R1 1 (-l) (x1-x2) (by grobner)
  have R4 : (N : Int) ∣ (x3-x2)*(x5-x2)+2*v*y2-(3*x2*x2+A) := dv3 hv2 hv1 R3 1 v (x3-x2) (by grobner)
  have F1 : (N : Int) ∣ y1 - (y2 + l*(x1-x2)) := dv1 hl1 1 (by grobner)
  have F3 : (N : Int) ∣ y3 - (y2 + v*(x3-x2)) := dv1 hv1 (-1) (by grobner)
  have F4 : (N : Int) ∣ y4 + y2 + l*(x4-x2) := dv2 ly hl1 1 (-1) (by grobner)
  have F5 : (N : Int) ∣ y5 + y2 + v*(x5-x2) := dv1 vy 1 (by grobner)
  have M1 : (N : Int) ∣ m*((x3-x2)-(x4-x2))-(2*y2+v*(x3-x2)+l*(x4-x2)) := dv3 hm1 F3 F4 1 1 (-1) (by grobner)
  have M2 : (N : Int) ∣ m*(v*(x3-x2)-l*(x4-x2))-((x3-x2)*(x3-x2)+(x3-x2)*(x4-x2)+(x4-x2)*(x4-x2)+3*x2*((x3-x2)+(x4-x2))+(3*x2*x2+A)) := dv3 hm2 F3 F4 1 (-m) (-m) (by grobner)
  have N1 : (N : Int) ∣ r*((x1-x2)-(x5-x2))-(2*y2+v*(x5-x2)+l*(x1-x2)) := dv3 hr1 F5 F1 (-1) (-1) 1 (by grobner)
  have N2 : (N : Int) ∣ r*(l*(x1-x2)-v*(x5-x2))-((x1-x2)*(x1-x2)+(x1-x2)*(x5-x2)+(x5-x2)*(x5-x2)+3*x2*((x1-x2)+(x5-x2))+(3*x2*x2+A)) := dv3 hr2 F1 F5 1 (-r) (-r) (by grobner)
  have D4 : ¬ (N : Int) ∣ (x3-x2)-(x4-x2) ∨ ¬ (N : Int) ∣ v*(x3-x2)-l*(x4-x2) := by
    rcases d4 with h | h
    · exact .inl fun g => h (dv1 g 1 (by grobner))
    · exact .inr fun g => h (dv3 g F3 F4 1 1 1 (by grobner))
  have D5 : ¬ (N : Int) ∣ (x1-x2)-(x5-x2) ∨ ¬ (N : Int) ∣ l*(x1-x2)-v*(x5-x2) := by
    rcases d5 with h | h
    · exact .inl fun g => h (dv1 g (-1) (by grobner))
    · exact .inr fun g => h (dv3 g F1 F5 1 1 1 (by grobner))
  have SG := as_sigma hp R1 R2 R3 R4 M1 M2 N1 N2 D4 D5
  have X : (N : Int) ∣ (m*m-(x3-x2)-(x4-x2)-(l+m-v)*(l+m-v)+(x1-x2)+(x5-x2)) := by
    rcases D4 with h | h
    · exact (hp.dvd_mul_int (as_X1 R1 R2 R3 R4 M1)).resolve_left h
    · exact (hp.dvd_mul_int (as_X2 R1 R2 R3 R4 M2)).resolve_left h
  have Y : (N : Int) ∣ (m*((x3-x2)-(m*m-3*x2-(x3-x2)-(x4-x2)))-v*(x3-x2)-(l+m-v)*((x1-x2)-(m*m-3*x2-(x3-x2)-(x4-x2)))+l*(x1-x2)) := by
    rcases D4 with h | h
    · exact (hp.dvd_mul_int ((hp.dvd_mul_int (as_Y1 R1 R2 R3 R4 M1)).resolve_left h)).resolve_left h
    · exact (hp.dvd_mul_int ((hp.dvd_mul_int (as_Y2 R1 R2 R3 R4 M2)).resolve_left h)).resolve_left h
  have EX : (N : Int) ∣ x6 - x7 := dv4 mx rx X SG 1 (-1) 1 (l+m-v+r) (by grobner)
  refine ⟨EX, ?_⟩
  -- y6 by the third spot's line; y7 by the first one's
  have G6 : (N : Int) ∣ y6 - (m*((x3-x2)-(x6-x2)) - (y2 + v*(x3-x2))) := dv3 my F4 M1 1 (-1) (-1) (by grobner)
  have G7 : (N : Int) ∣ y7 - ((l+m-v)*((x1-x2)-(x6-x2)) - (y2 + l*(x1-x2))) := dv4 ry F1 EX SG 1 (-1) r (-(x1-x6)) (by grobner)
  exact dv4 G6 G7 Y mx 1 (-1) 1 (l-v) (by grobner)
set_option maxHeartbeats 1600000 in
/-- brackets, where no sum is the far one -/
theorem assoc_gen {N : Nat} (hp : M.Pr N) (h5 : 5 ≤ N) {A B : Int} {p q o : Sp} (h1 : Aff N A B p) (h2 : Aff N A B q) (h3 : Aff N A B o) (n12 : p ≠ negS N q) (n23 : q ≠ negS N o)
    (n4 : addS N A p q ≠ negS N o) (n5 : p ≠ negS N (addS N A q o)) : addS N A (addS N A p q) o = addS N A p (addS N A q o) := by
  obtain ⟨l, hl, h4, lx, ly⟩ := add_fact hp h5 h1 h2 n12
  obtain ⟨v, hv, h6, vx, vy⟩ := add_fact hp h5 h2 h3 n23
  obtain ⟨p4, e4⟩ : ∃ p4, addS N A p q = p4 := ⟨_, rfl⟩
  obtain ⟨p5, e5⟩ : ∃ p5, addS N A q o = p5 := ⟨_, rfl⟩
  rw [e4] at h4 lx ly n4 ⊢
  rw [e5] at h6 vx vy n5 ⊢
  clear e4 e5
  obtain ⟨m, hm, h7, mx, my⟩ := add_fact hp h5 h4 h3 n4
  obtain ⟨r, hr, h8, rx, ry⟩ := add_fact hp h5 h1 h6 n5
  obtain ⟨S, eS⟩ : ∃ S, addS N A p4 o = S := ⟨_, rfl⟩
  obtain ⟨T, eT⟩ : ∃ S, addS N A p p5 = S := ⟨_, rfl⟩
  rw [eS] at h7 mx my ⊢
  rw [eT] at h8 rx ry ⊢
  clear eS eT
  have d4 := nd (by omega) h4 h3 n4
  have d5 := nd (by omega) h1 h6 n5
  obtain ⟨hl1, hl2⟩ := hl
  obtain ⟨hv1, hv2⟩ := hv
  obtain ⟨hm1, hm2⟩ := hm
  obtain ⟨hr1, hr2⟩ := hr
  refine Aff.ext h7 h8 ?_ ?_
  all_goals
    clear h1 h2 h3 h4 h6 h7 h8 n12 n23 n4 n5
    obtain ⟨x1, y1, f1⟩ := p
    obtain ⟨x2, y2, f2⟩ := q
    obtain ⟨x3, y3, f3⟩ := o
    obtain ⟨x4, y4, f4⟩ := p4
    obtain ⟨x5, y5, f5⟩ := p5
    obtain ⟨x6, y6, f6⟩ := S
    obtain ⟨x7, y7, f7⟩ := T
    simp only at lx ly vx vy mx my rx ry d4 d5 hl1 hl2 hv1 hv2 hm1 hm2 hr1 hr2 ⊢
  · exact (assoc_xy hp lx ly vx vy mx my rx ry d4 d5 hl1 hl2 hv1 hv2 hm1 hm2 hr1 hr2).1
  · exact (assoc_xy hp lx ly vx vy mx my rx ry d4 d5 hl1 hl2 hv1 hv2 hm1 hm2 hr1 hr2).2
theorem neg_far (N : Nat) : negS N farS = farS := by unfold negS farS; simp
theorem far_add (N : Nat) (A : Int) (t : Sp) : addS N A farS t = t := if_pos rfl
theorem neg_res (N : Nat) (s : Sp) : (N : Int) ∣ (negS N s).y + s.y := dv1 (emod_dvd (-s.y) N) 1 (show (-s.y) % (N : Int) + s.y = _ by grind)
theorem negneg {N : Nat} {A B : Int} {s : Sp} (h1 : 1 ≤ N) (h : OnC N A B s) : negS N (negS N s) = s := Go.Proofs.Ytnheboamjfahaaa.neg_neg h h1
theorem neg_inj {N : Nat} {A B : Int} {s t : Sp} (h1 : 1 ≤ N) (hs : OnC N A B s) (ht : OnC N A B t) (h : negS N s = negS N t) : s = t := by
  rw [← negneg h1 hs, h, negneg h1 ht]
theorem ln_neg {N : Nat} {A k : Int} {s t : Sp} (h : Ln N A k s t) : Ln N A (-k) (negS N s) (negS N t) := by
  have a := neg_res N s
  have b := neg_res N t
  obtain ⟨h1, h2⟩ := h
  have e1 : (negS N s).x = s.x := rfl
  have e2 : (negS N t).x = t.x := rfl
  unfold Ln
  rw [e1, e2]
  obtain ⟨y, hy⟩ : ∃ y, (negS N s).y = y := ⟨_, rfl⟩
  obtain ⟨z, hz⟩ : ∃ y, (negS N t).y = y := ⟨_, rfl⟩
  rw [hy] at a ⊢
  rw [hz] at b ⊢
  exact ⟨dv3 h1 a b (-1) 1 (-1) (by grobner), dv3 h2 a b 1 (-k) (-k) (by grobner)⟩
theorem neg_add {N : Nat} (hp : M.Pr N) (h5 : 5 ≤ N) {A B : Int} {s t : Sp} (hs : OnC N A B s) (ht : OnC N A B t) : negS N (addS N A s t) = addS N A (negS N s) (negS N t) := by
  have h1 : 1 ≤ N := by omega
  rcases hs.cases with e | as
  · rw [e, neg_far, far_add, far_add]
  rcases ht.cases with e | at'
  · rw [e, neg_far, add_far hs, add_far (OnC.neg h1 hs)]
  by_cases hn : s = negS N t
  · rw [hn, negneg h1 ht, add_comm hp h5 (OnC.neg h1 ht) ht, add_neg h1 ht, neg_far]
  · obtain ⟨k, hk, ha, hx, hy⟩ := add_fact hp h5 as at' hn
    obtain ⟨u, hu⟩ : ∃ u, addS N A s t = u := ⟨_, rfl⟩
    rw [hu] at ha hx hy ⊢
    refine (add_spec hp h5 (as.neg h1) (at'.neg h1) (ha.neg h1) (fun h => hn (neg_inj h1 hs (OnC.neg h1 ht) h)) (ln_neg hk) ?_ ?_).symm
    · show (N : Int) ∣ u.x - (-k * -k - s.x - t.x)
      exact dv1 hx 1 (by grobner)
    · have a := neg_res N s
      have b := neg_res N u
      show (N : Int) ∣ (negS N u).y - (-k * (s.x - u.x) - (negS N s).y)
      obtain ⟨y, hy'⟩ : ∃ y, (negS N s).y = y := ⟨_, rfl⟩
      obtain ⟨z, hz⟩ : ∃ y, (negS N u).y = y := ⟨_, rfl⟩
      rw [hy'] at a ⊢
      rw [hz] at b ⊢
      exact dv3 hy a b (-1) 1 1 (by grobner)
/-- what was put on is taken off -/
theorem cancel {N : Nat} (hp : M.Pr N) (h5 : 5 ≤ N) {A B : Int} (hd : ¬ (N : Int) ∣ 4 * A * A * A + 27 * B * B) {q o : Sp} (hq : OnC N A B q) (ho : OnC N A B o) : addS N A (negS N q) (addS N A q o) = o := by
  have h1 : 1 ≤ N := by omega
  rcases hq.cases with e | aq
  · rw [e, neg_far, far_add, far_add]
  rcases ho.cases with e | ao
  · rw [e, add_far hq, add_comm hp h5 (OnC.neg h1 hq) hq, add_neg h1 hq]
  by_cases hn : q = negS N o
  · rw [hn, negneg h1 ho, add_comm hp h5 (OnC.neg h1 ho) ho, add_neg h1 ho, add_far ho]
  obtain ⟨k, ⟨l1, l2⟩, ha, hx, hy⟩ := add_fact hp h5 aq ao hn
  obtain ⟨u, hu⟩ : ∃ u, addS N A q o = u := ⟨_, rfl⟩
  rw [hu] at ha hx hy ⊢
  have R2 : (N : Int) ∣ (o.x - q.x) * (u.x - q.x) + 2 * k * q.y - (3 * q.x * q.x + A) := dv3 l2 l1 hx 1 k (o.x - q.x) (by grobner)
  have a := neg_res N q
  have b := neg_res N u
  refine add_spec hp h5 (k := -k) (aq.neg h1) ha ao (fun h => ?_) ⟨?_, ?_⟩ ?_ ?_
  · have h := neg_inj h1 hq ha.on h
    rw [← h] at R2 hy
    have y0 : (N : Int) ∣ q.y := two_ndvd hp h5 (dv1 hy 1 (by grobner))
    have t0 : (N : Int) ∣ 3 * q.x * q.x + A := dv2 R2 y0 (-1) (2 * k) (by grobner)
    have g0 : (N : Int) ∣ q.x * q.x * q.x + A * q.x + B := dv2 aq.2.2.2.2.2 y0 (-1) q.y (by grobner)
    exact hd (dv2 t0 g0 (4 * A * A - 12 * A * q.x * q.x - 27 * B * q.x - 18 * q.x * q.x * q.x * q.x) (27 * B + 54 * q.x * q.x * q.x) (by grobner))
  · show (N : Int) ∣ -k * (u.x - q.x) - (u.y - (negS N q).y)
    obtain ⟨y, hy'⟩ : ∃ y, (negS N q).y = y := ⟨_, rfl⟩
    rw [hy'] at a ⊢
    exact dv2 hy a (-1) 1 (by grobner)
  · show (N : Int) ∣ -k * ((negS N q).y + u.y) - (q.x * q.x + q.x * u.x + u.x * u.x + A)
    obtain ⟨y, hy'⟩ : ∃ y, (negS N q).y = y := ⟨_, rfl⟩
    rw [hy'] at a ⊢
    exact dv4 R2 a hy hx 1 (-k) (-k) (-(u.x - q.x)) (by grobner)
  · show (N : Int) ∣ o.x - (-k * -k - q.x - u.x)
    exact dv1 hx 1 (by grobner)
  · show (N : Int) ∣ o.y - (-k * (q.x - o.x) - (negS N q).y)
    obtain ⟨y, hy'⟩ : ∃ y, (negS N q).y = y := ⟨_, rfl⟩
    rw [hy'] at a ⊢
    exact dv2 l1 a (-1) 1 (by grobner)
/-- the sum does not hang on brackets -/
theorem add_assoc {N : Nat} (hp : M.Pr N) (h5 : 5 ≤ N) {A B : Int} (hd : ¬ (N : Int) ∣ 4 * A * A * A + 27 * B * B) {p q o : Sp} (h1 : OnC N A B p) (h2 : OnC N A B q) (h3 : OnC N A B o) :
    addS N A (addS N A p q) o = addS N A p (addS N A q o) := by
  have g1 : 1 ≤ N := by omega
  have n1 := OnC.neg g1 h1
  have n2 := OnC.neg g1 h2
  have n3 := OnC.neg g1 h3
  rcases h1.cases with e | a1
  · rw [e, far_add, far_add]
  rcases h2.cases with e | a2
  · rw [e, far_add, add_far h1]
  rcases h3.cases with e | a3
  · rw [e, add_far h2, add_far (OnC.add hp h5 h1 h2)]
  by_cases c1 : p = negS N q
  · rw [c1, cancel hp h5 hd h2 h3, add_comm hp h5 n2 h2, add_neg g1 h2, far_add]
  by_cases c2 : q = negS N o
  · have c3 : o = negS N q := (neg_iff g1 h2 h3).1 c2
    rw [c3, add_neg g1 h2, add_far h1, add_comm hp h5 (OnC.add hp h5 h1 h2) n2, add_comm hp h5 h1 h2, cancel hp h5 hd h2 h1]
  by_cases c4 : addS N A p q = negS N o
  · have c5 : o = addS N A (negS N p) (negS N q) := by rw [← neg_add hp h5 h1 h2, c4, negneg g1 h3]
    have c6 : addS N A q o = negS N p := by
      have := cancel hp h5 hd n2 n1
      rw [negneg g1 h2] at this
      rw [c5, add_comm hp h5 n1 n2, this]
    rw [c4, c6, add_neg g1 h1, add_comm hp h5 n3 h3, add_neg g1 h3]
  by_cases c7 : p = negS N (addS N A q o)
  · have c8 : addS N A p q = negS N o := by
      have := cancel hp h5 hd n2 n3
      rw [negneg g1 h2] at this
      rw [add_comm hp h5 h1 h2, c7, neg_add hp h5 h2 h3, this]
    exact absurd c8 c4
  exact assoc_gen hp h5 a1 a2 a3 c1 c2 c4 c7
end Go.Proofs.Ytnheboamjfahaaa

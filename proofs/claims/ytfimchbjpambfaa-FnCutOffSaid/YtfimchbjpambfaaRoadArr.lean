/-
  Arrivals and departures as plain functions: a pass over all roads, as many passes as there are places.
-/
import Derived.Test.YtfimchbjpambfaaRoadMath
import Derived.Test.YtfimchbjpambfaaRoadWalks
namespace Go.Proofs.Ytfimchbjpambfaa
open Go.RowKit

def gi (s : List Int) (v : Int) : Int := s.getD v.toNat (-1)
theorem gi_get {s : List Int} {v : Int} {x : Int} (h : s[v.toNat]? = some x) : gi s v = x := by simp [gi, h]
theorem gi_set {s : List Int} {v u : Int} {x : Int} (hv : v.toNat < s.length) : gi (s.set v.toNat x) u = if u.toNat = v.toNat then x else gi s u := by
  unfold gi
  rw [List.getD_eq_getElem?_getD, List.getElem?_set, List.getD_eq_getElem?_getD]
  by_cases h : v.toNat = u.toNat
  · rw [if_pos h, if_pos h.symm, if_pos (by rw [← h] at *; exact hv)]
    rfl
  · rw [if_neg h, if_neg (fun e => h e.symm)]
def valA (x : Int) : Nat := if x < 0 then 5000 else x.toNat
def valD (x : Int) : Nat := if x < 0 then 5000 else (999 - x).toNat
def rideA (r : Road) (t : Int) : Int := if t < 0 ∨ r.closes < t + r.minutes then -1 else t + r.minutes
def rideD (r : Road) (t : Int) : Int := min t r.closes - r.minutes
def legFA (r : Road) (t : Nat) : Nat := if (t : Int) + r.minutes ≤ r.closes then t + r.minutes.toNat else 5000
def legFD (r : Road) (t : Nat) : Nat := if max (t : Int) (999 - r.closes) + r.minutes ≤ 999 then (max (t : Int) (999 - r.closes) + r.minutes).toNat else 5000

/-- A state of P places: each number is a minute or -1. -/
structure Arr (P : Nat) (s : List Int) : Prop where
  len : s.length = P
  bd : ∀ v, -1 ≤ gi s v ∧ gi s v ≤ 999
theorem arr_start {P v0 : Nat} {m : Int} (hv : v0 < P) (hm : 0 ≤ m ∧ m ≤ 999) : Arr P ((List.replicate P (-1)).set v0 m) := ⟨by simp, fun v => by
  unfold gi
  rw [List.getD_eq_getElem?_getD, List.getElem?_set]
  split
  · simp [hv]; omega
  · rw [List.getElem?_replicate]
    split <;> simp⟩
theorem road_ends {P : Nat} {r : Road} (hr : goodR P r = true) : (0 ≤ r.a ∧ r.a.toNat < P) ∧ (0 ≤ r.b ∧ r.b.toNat < P) := by
  have hb := goodR_bd hr
  omega
def relA (s : List Int) (r : Road) (src dst : Int) : List Int :=
  if 0 ≤ rideA r (gi s src) ∧ valA (rideA r (gi s src)) < valA (gi s dst) then s.set dst.toNat (rideA r (gi s src)) else s
def roadA (s : List Int) (r : Road) : List Int := relA (relA s r r.a r.b) r r.b r.a
def passA (rs : List Road) (s : List Int) : List Int := rs.foldl roadA s
def runA (rs : List Road) : Nat → List Int → List Int
  | 0, s => s
  | k + 1, s => passA rs (runA rs k s)
def legA (r : Road) (src dst : Int) : Leg := ⟨src.toNat, dst.toNat, legFA r⟩
def legsA (rs : List Road) : List Leg := rs.flatMap fun r => [legA r r.a r.b, legA r r.b r.a]
def stA (s : List Int) : Nat → Nat := fun v => valA (gi s v)
theorem rideA_bd {p : Int} {r : Road} (hr : goodR p r = true) {t : Int} (ht : -1 ≤ t ∧ t ≤ 999) : -201 ≤ rideA r t ∧ rideA r t ≤ 999 := by
  have hb := goodR_bd hr
  unfold rideA
  first | (split <;> omega) | omega
theorem Arr.relA {P : Nat} {p : Int} {s : List Int} {r : Road} (h : Arr P s) (hr : goodR p r = true) (src dst : Int) (hd : dst.toNat < P) : Arr P (relA s r src dst) := by
  unfold Go.Proofs.Ytfimchbjpambfaa.relA
  split
  · rename_i hc
    have hb := rideA_bd hr (h.bd src)
    refine ⟨by rw [List.length_set]; exact h.len, fun v => ?_⟩
    rw [gi_set (by rw [h.len]; exact hd)]
    split
    · omega
    · exact h.bd v
  · exact h
theorem legFA_val {p : Int} {r : Road} (hr : goodR p r = true) {t : Int} (ht : -1 ≤ t ∧ t ≤ 999) : legFA r (valA t) = valA (rideA r t) := by
  have hb := goodR_bd hr
  unfold legFA valA rideA
  repeat' split
  all_goals omega
theorem valA_bd {t : Int} (ht : -1 ≤ t ∧ t ≤ 999) : valA t ≤ 5000 ∧ (t < 0 → valA t = 5000) ∧ (0 ≤ t → valA t ≤ 999) := by
  unfold valA
  split <;> omega
theorem stA_rel {P : Nat} {p : Int} {s : List Int} {r : Road} (h : Arr P s) (hr : goodR p r = true) (src dst : Int) (hs : 0 ≤ src ∧ src.toNat < P) (hd : 0 ≤ dst ∧ dst.toNat < P) : stA (relA s r src dst) = legStep (stA s) (legA r src dst) := by
  funext v
  have e1 : ((src.toNat : Nat) : Int) = src := by omega
  have e2 : ((dst.toNat : Nat) : Int) = dst := by omega
  have hv := legFA_val hr (h.bd src)
  have hb := rideA_bd hr (h.bd src)
  have hd1 := valA_bd (h.bd dst)
  unfold Go.Proofs.Ytfimchbjpambfaa.relA legStep stA legA
  simp only [e1]
  rw [hv]
  split
  · rename_i hc
    rw [gi_set (by rw [h.len]; exact hd.2)]
    rw [show ((v : Int).toNat) = v from by omega]
    split
    · rename_i e
      subst e
      rw [e2]
      omega
    · rfl
  · rename_i hc
    split
    · rename_i e
      subst e
      rw [e2]
      by_cases h0 : 0 ≤ rideA r (gi s src)
      · have : ¬ valA (rideA r (gi s src)) < valA (gi s dst) := fun h1 => hc ⟨h0, h1⟩
        omega
      · have h5 : valA (rideA r (gi s src)) = 5000 := by unfold valA; rw [if_pos (by omega)]
        rw [h5]
        omega
    · rfl
theorem relA_len (s : List Int) (r : Road) (src dst : Int) : (relA s r src dst).length = s.length := by
  unfold relA
  split
  · rw [List.length_set]
  · rfl
theorem Arr.roadA {P : Nat} {s : List Int} {r : Road} (h : Arr P s) (hr : goodR P r = true) : Arr P (roadA s r) := by
  obtain ⟨h1, h2⟩ := road_ends hr
  exact (h.relA hr _ _ (by first | exact h1.2 | exact h2.2)).relA hr _ _ (by first | exact h1.2 | exact h2.2)
theorem Arr.passA {P : Nat} : ∀ {rs : List Road} {s : List Int}, (∀ r ∈ rs, goodR P r = true) → Arr P s → Arr P (passA rs s)
  | [], _, _, h => h
  | r :: rs, _, hr, h => Arr.passA (rs := rs) (fun x hx => hr x (by simp [hx])) (h.roadA (hr r (by simp)))
theorem Arr.runA {P : Nat} {rs : List Road} (hr : ∀ r ∈ rs, goodR P r = true) {s : List Int} (h : Arr P s) : ∀ k, Arr P (runA rs k s)
  | 0 => h
  | k + 1 => (Arr.runA hr h k).passA hr
theorem stA_pass {P : Nat} : ∀ {rs : List Road} {s : List Int}, (∀ r ∈ rs, goodR P r = true) → Arr P s → stA (passA rs s) = legPass (legsA rs) (stA s)
  | [], _, _, _ => rfl
  | r :: rs, s, hr, h => by
    have hg := hr r (by simp)
    obtain ⟨h1, h2⟩ := road_ends hg
    have e : passA (r :: rs) s = passA rs (roadA s r) := rfl
    rw [e, stA_pass (fun x hx => hr x (by simp [hx])) (h.roadA hg)]
    unfold Go.Proofs.Ytfimchbjpambfaa.roadA
    rw [stA_rel (h.relA hg _ _ (by first | exact h1.2 | exact h2.2)) hg _ _ (by first | exact h1 | exact h2) (by first | exact h1 | exact h2), stA_rel h hg _ _ (by first | exact h1 | exact h2) (by first | exact h1 | exact h2)]
    rfl
theorem stA_run {P : Nat} {rs : List Road} {s : List Int} (hr : ∀ r ∈ rs, goodR P r = true) (h : Arr P s) : ∀ k, stA (runA rs k s) = legRun (legsA rs) k (stA s)
  | 0 => rfl
  | k + 1 => by
    show stA (passA rs (runA rs k s)) = legPass _ _
    rw [stA_pass hr (h.runA hr k), stA_run hr h k]
theorem legA_ok {P : Nat} {r : Road} (hr : goodR P r = true) {x y : Int} (hx : 0 ≤ x ∧ x.toNat < P) (hy : 0 ≤ y ∧ y.toNat < P) : (legA r x y).Ok 5000 P := by
  have hb := goodR_bd hr
  refine ⟨hx.2, hy.2, fun t t' h => ?_, fun t h => ?_, ?_⟩
  · show legFA r t ≤ legFA r t'
    unfold legFA
    repeat' split
    all_goals omega
  · show t < legFA r t
    unfold legFA
    repeat' split
    all_goals omega
  · show 5000 ≤ legFA r 5000
    unfold legFA
    repeat' split
    all_goals omega
theorem legsA_ok {P : Nat} {rs : List Road} (hr : ∀ r ∈ rs, goodR P r = true) : ∀ l ∈ legsA rs, l.Ok 5000 P := fun l hl => by
  simp only [legsA, List.mem_flatMap, List.mem_cons, List.not_mem_nil, or_false] at hl
  obtain ⟨r, hm, h1 | h1⟩ := hl
  all_goals (subst h1; obtain ⟨h2, h3⟩ := road_ends (hr r hm); exact legA_ok (hr r hm) (by first | exact h2 | exact h3) (by first | exact h2 | exact h3))
theorem valA_inj {x y : Int} (hx : -1 ≤ x ∧ x ≤ 999) (hy : -1 ≤ y ∧ y ≤ 999) (h : valA x = valA y) : x = y := by
  unfold valA at h
  split at h <;> split at h <;> omega
theorem arr_extA {P : Nat} {s t : List Int} (hs : Arr P s) (ht : Arr P t) (h : ∀ v, v < P → stA s v = stA t v) : s = t := by
  refine List.ext_getElem? fun v => ?_
  rcases Nat.lt_or_ge v P with hv | hv
  · have h1 := valA_inj (hs.bd v) (ht.bd v) (h v hv)
    obtain ⟨x, hx⟩ := get_of_lt (xs := s) (i := v) (by rw [hs.len]; exact hv)
    obtain ⟨y, hy⟩ := get_of_lt (xs := t) (i := v) (by rw [ht.len]; exact hv)
    rw [gi_get (by simpa using hx), gi_get (by simpa using hy)] at h1
    rw [hx, hy, h1]
  · rw [List.getElem?_eq_none (by rw [hs.len]; exact hv), List.getElem?_eq_none (by rw [ht.len]; exact hv)]
/-- A pass that changes no value leaves the state; more passes then change nothing either. -/
theorem runA_done {P : Nat} {rs : List Road} (hr : ∀ r ∈ rs, goodR P r = true) {v0 : Nat} {m : Int} (hv : v0 < P) (hm : 0 ≤ m ∧ m ≤ 999) {K : Nat}
    (hK : passA rs (runA rs K ((List.replicate P (-1)).set v0 m)) = runA rs K ((List.replicate P (-1)).set v0 m)) :
    runA rs K ((List.replicate P (-1)).set v0 m) = runA rs P ((List.replicate P (-1)).set v0 m) := by
  have hA : Arr P ((List.replicate P (-1)).set v0 m) := arr_start hv hm
  have hst : stA ((List.replicate P (-1)).set v0 m) = legStart 5000 v0 (valA m) := by
    funext v
    unfold stA legStart gi
    rw [List.getD_eq_getElem?_getD, List.getElem?_set]
    simp only [Int.toNat_natCast]
    by_cases e : v0 = v
    · subst e
      simp [hv]
    · rw [if_neg e, if_neg (fun h => e h.symm), List.getElem?_replicate]
      split <;> simp [valA]
  have hm5 : valA m < 5000 := by unfold valA; split <;> omega
  have hfix : legPass (legsA rs) (legRun (legsA rs) K (legStart 5000 v0 (valA m))) = legRun (legsA rs) K (legStart 5000 v0 (valA m)) := by
    rw [← hst, ← stA_run hr hA, ← stA_pass hr (hA.runA hr K), hK]
  refine arr_extA (hA.runA hr K) (hA.runA hr P) fun v hv' => ?_
  rw [stA_run hr hA, stA_run hr hA, hst]
  exact (legRun_done (legsA_ok hr) hm5 hfix v hv').symm
def arrA (P : Nat) (rs : List Road) (v0 : Nat) (m : Int) : List Int := runA rs P ((List.replicate P (-1)).set v0 m)

def relD (s : List Int) (r : Road) (src dst : Int) : List Int :=
  if 0 ≤ rideD r (gi s src) ∧ valD (rideD r (gi s src)) < valD (gi s dst) then s.set dst.toNat (rideD r (gi s src)) else s
def roadD (s : List Int) (r : Road) : List Int := relD (relD s r r.b r.a) r r.a r.b
def passD (rs : List Road) (s : List Int) : List Int := rs.foldl roadD s
def runD (rs : List Road) : Nat → List Int → List Int
  | 0, s => s
  | k + 1, s => passD rs (runD rs k s)
def legD (r : Road) (src dst : Int) : Leg := ⟨src.toNat, dst.toNat, legFD r⟩
def legsD (rs : List Road) : List Leg := rs.flatMap fun r => [legD r r.b r.a, legD r r.a r.b]
def stD (s : List Int) : Nat → Nat := fun v => valD (gi s v)
theorem rideD_bd {p : Int} {r : Road} (hr : goodR p r = true) {t : Int} (ht : -1 ≤ t ∧ t ≤ 999) : -201 ≤ rideD r t ∧ rideD r t ≤ 999 := by
  have hb := goodR_bd hr
  unfold rideD
  first | (split <;> omega) | omega
theorem Arr.relD {P : Nat} {p : Int} {s : List Int} {r : Road} (h : Arr P s) (hr : goodR p r = true) (src dst : Int) (hd : dst.toNat < P) : Arr P (relD s r src dst) := by
  unfold Go.Proofs.Ytfimchbjpambfaa.relD
  split
  · rename_i hc
    have hb := rideD_bd hr (h.bd src)
    refine ⟨by rw [List.length_set]; exact h.len, fun v => ?_⟩
    rw [gi_set (by rw [h.len]; exact hd)]
    split
    · omega
    · exact h.bd v
  · exact h
theorem legFD_val {p : Int} {r : Road} (hr : goodR p r = true) {t : Int} (ht : -1 ≤ t ∧ t ≤ 999) : legFD r (valD t) = valD (rideD r t) := by
  have hb := goodR_bd hr
  unfold legFD valD rideD
  repeat' split
  all_goals omega
theorem valD_bd {t : Int} (ht : -1 ≤ t ∧ t ≤ 999) : valD t ≤ 5000 ∧ (t < 0 → valD t = 5000) ∧ (0 ≤ t → valD t ≤ 999) := by
  unfold valD
  split <;> omega
theorem stD_rel {P : Nat} {p : Int} {s : List Int} {r : Road} (h : Arr P s) (hr : goodR p r = true) (src dst : Int) (hs : 0 ≤ src ∧ src.toNat < P) (hd : 0 ≤ dst ∧ dst.toNat < P) : stD (relD s r src dst) = legStep (stD s) (legD r src dst) := by
  funext v
  have e1 : ((src.toNat : Nat) : Int) = src := by omega
  have e2 : ((dst.toNat : Nat) : Int) = dst := by omega
  have hv := legFD_val hr (h.bd src)
  have hb := rideD_bd hr (h.bd src)
  have hd1 := valD_bd (h.bd dst)
  unfold Go.Proofs.Ytfimchbjpambfaa.relD legStep stD legD
  simp only [e1]
  rw [hv]
  split
  · rename_i hc
    rw [gi_set (by rw [h.len]; exact hd.2)]
    rw [show ((v : Int).toNat) = v from by omega]
    split
    · rename_i e
      subst e
      rw [e2]
      omega
    · rfl
  · rename_i hc
    split
    · rename_i e
      subst e
      rw [e2]
      by_cases h0 : 0 ≤ rideD r (gi s src)
      · have : ¬ valD (rideD r (gi s src)) < valD (gi s dst) := fun h1 => hc ⟨h0, h1⟩
        omega
      · have h5 : valD (rideD r (gi s src)) = 5000 := by unfold valD; rw [if_pos (by omega)]
        rw [h5]
        omega
    · rfl
theorem relD_len (s : List Int) (r : Road) (src dst : Int) : (relD s r src dst).length = s.length := by
  unfold relD
  split
  · rw [List.length_set]
  · rfl
theorem Arr.roadD {P : Nat} {s : List Int} {r : Road} (h : Arr P s) (hr : goodR P r = true) : Arr P (roadD s r) := by
  obtain ⟨h1, h2⟩ := road_ends hr
  exact (h.relD hr _ _ (by first | exact h1.2 | exact h2.2)).relD hr _ _ (by first | exact h1.2 | exact h2.2)
theorem Arr.passD {P : Nat} : ∀ {rs : List Road} {s : List Int}, (∀ r ∈ rs, goodR P r = true) → Arr P s → Arr P (passD rs s)
  | [], _, _, h => h
  | r :: rs, _, hr, h => Arr.passD (rs := rs) (fun x hx => hr x (by simp [hx])) (h.roadD (hr r (by simp)))
theorem Arr.runD {P : Nat} {rs : List Road} (hr : ∀ r ∈ rs, goodR P r = true) {s : List Int} (h : Arr P s) : ∀ k, Arr P (runD rs k s)
  | 0 => h
  | k + 1 => (Arr.runD hr h k).passD hr
theorem stD_pass {P : Nat} : ∀ {rs : List Road} {s : List Int}, (∀ r ∈ rs, goodR P r = true) → Arr P s → stD (passD rs s) = legPass (legsD rs) (stD s)
  | [], _, _, _ => rfl
  | r :: rs, s, hr, h => by
    have hg := hr r (by simp)
    obtain ⟨h1, h2⟩ := road_ends hg
    have e : passD (r :: rs) s = passD rs (roadD s r) := rfl
    rw [e, stD_pass (fun x hx => hr x (by simp [hx])) (h.roadD hg)]
    unfold Go.Proofs.Ytfimchbjpambfaa.roadD
    rw [stD_rel (h.relD hg _ _ (by first | exact h1.2 | exact h2.2)) hg _ _ (by first | exact h1 | exact h2) (by first | exact h1 | exact h2), stD_rel h hg _ _ (by first | exact h1 | exact h2) (by first | exact h1 | exact h2)]
    rfl
theorem stD_run {P : Nat} {rs : List Road} {s : List Int} (hr : ∀ r ∈ rs, goodR P r = true) (h : Arr P s) : ∀ k, stD (runD rs k s) = legRun (legsD rs) k (stD s)
  | 0 => rfl
  | k + 1 => by
    show stD (passD rs (runD rs k s)) = legPass _ _
    rw [stD_pass hr (h.runD hr k), stD_run hr h k]
theorem legD_ok {P : Nat} {r : Road} (hr : goodR P r = true) {x y : Int} (hx : 0 ≤ x ∧ x.toNat < P) (hy : 0 ≤ y ∧ y.toNat < P) : (legD r x y).Ok 5000 P := by
  have hb := goodR_bd hr
  refine ⟨hx.2, hy.2, fun t t' h => ?_, fun t h => ?_, ?_⟩
  · show legFD r t ≤ legFD r t'
    unfold legFD
    repeat' split
    all_goals omega
  · show t < legFD r t
    unfold legFD
    repeat' split
    all_goals omega
  · show 5000 ≤ legFD r 5000
    unfold legFD
    repeat' split
    all_goals omega
theorem legsD_ok {P : Nat} {rs : List Road} (hr : ∀ r ∈ rs, goodR P r = true) : ∀ l ∈ legsD rs, l.Ok 5000 P := fun l hl => by
  simp only [legsD, List.mem_flatMap, List.mem_cons, List.not_mem_nil, or_false] at hl
  obtain ⟨r, hm, h1 | h1⟩ := hl
  all_goals (subst h1; obtain ⟨h2, h3⟩ := road_ends (hr r hm); exact legD_ok (hr r hm) (by first | exact h2 | exact h3) (by first | exact h2 | exact h3))
theorem valD_inj {x y : Int} (hx : -1 ≤ x ∧ x ≤ 999) (hy : -1 ≤ y ∧ y ≤ 999) (h : valD x = valD y) : x = y := by
  unfold valD at h
  split at h <;> split at h <;> omega
theorem arr_extD {P : Nat} {s t : List Int} (hs : Arr P s) (ht : Arr P t) (h : ∀ v, v < P → stD s v = stD t v) : s = t := by
  refine List.ext_getElem? fun v => ?_
  rcases Nat.lt_or_ge v P with hv | hv
  · have h1 := valD_inj (hs.bd v) (ht.bd v) (h v hv)
    obtain ⟨x, hx⟩ := get_of_lt (xs := s) (i := v) (by rw [hs.len]; exact hv)
    obtain ⟨y, hy⟩ := get_of_lt (xs := t) (i := v) (by rw [ht.len]; exact hv)
    rw [gi_get (by simpa using hx), gi_get (by simpa using hy)] at h1
    rw [hx, hy, h1]
  · rw [List.getElem?_eq_none (by rw [hs.len]; exact hv), List.getElem?_eq_none (by rw [ht.len]; exact hv)]
/-- A pass that changes no value leaves the state; more passes then change nothing either. -/
theorem runD_done {P : Nat} {rs : List Road} (hr : ∀ r ∈ rs, goodR P r = true) {v0 : Nat} {m : Int} (hv : v0 < P) (hm : 0 ≤ m ∧ m ≤ 999) {K : Nat}
    (hK : passD rs (runD rs K ((List.replicate P (-1)).set v0 m)) = runD rs K ((List.replicate P (-1)).set v0 m)) :
    runD rs K ((List.replicate P (-1)).set v0 m) = runD rs P ((List.replicate P (-1)).set v0 m) := by
  have hA : Arr P ((List.replicate P (-1)).set v0 m) := arr_start hv hm
  have hst : stD ((List.replicate P (-1)).set v0 m) = legStart 5000 v0 (valD m) := by
    funext v
    unfold stD legStart gi
    rw [List.getD_eq_getElem?_getD, List.getElem?_set]
    simp only [Int.toNat_natCast]
    by_cases e : v0 = v
    · subst e
      simp [hv]
    · rw [if_neg e, if_neg (fun h => e h.symm), List.getElem?_replicate]
      split <;> simp [valD]
  have hm5 : valD m < 5000 := by unfold valD; split <;> omega
  have hfix : legPass (legsD rs) (legRun (legsD rs) K (legStart 5000 v0 (valD m))) = legRun (legsD rs) K (legStart 5000 v0 (valD m)) := by
    rw [← hst, ← stD_run hr hA, ← stD_pass hr (hA.runD hr K), hK]
  refine arr_extD (hA.runD hr K) (hA.runD hr P) fun v hv' => ?_
  rw [stD_run hr hA, stD_run hr hA, hst]
  exact (legRun_done (legsD_ok hr) hm5 hfix v hv').symm
def arrD (P : Nat) (rs : List Road) (v0 : Nat) (m : Int) : List Int := runD rs P ((List.replicate P (-1)).set v0 m)

end Go.Proofs.Ytfimchbjpambfaa

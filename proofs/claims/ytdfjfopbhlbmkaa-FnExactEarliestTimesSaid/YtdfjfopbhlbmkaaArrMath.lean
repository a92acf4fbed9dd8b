/-
  Arrivals as lists of ticks: plain.
-/
import Derived.Test.YtdfjfopbhlbmkaaCells
namespace Go.Proofs.Ytdfjfopbhlbmkaa
open Go.RowKit

def gI (s : List Int) (v : Nat) : Int := s.getD v (-1)
theorem gI_get {s : List Int} {v : Nat} {x : Int} (h : s[v]? = some x) : gI s v = x := by simp [gI, h]
theorem gI_some {s : List Int} {v : Nat} (h : v < s.length) : s[v]? = some (gI s v) := by simp [gI, h]
theorem gI_set {s : List Int} {c v : Nat} {x : Int} (hc : c < s.length) : gI (s.set c x) v = if v = c then x else gI s v := by
  unfold gI
  simp only [List.getD_eq_getElem?_getD, List.getElem?_set]
  by_cases e : c = v
  · subst e; simp [hc]
  · simp [e, Ne.symm e]
def valT (x : Int) : Nat := if x < 0 then 100000 else x.toNat
def stF (s : List Int) : Nat → Nat := fun v => valT (gI s v)
def edgeF (t : Terr) (a b : Nat) : Bool := nearB t (a : Int) b && burnsB t (b : Int)
def costF (t : Terr) (ps : List Phase) (a b x : Nat) : Nat := (doneF (speedF ps) (x : Int) (workF t (a : Int) (b : Int))).toNat
def srcF (t : Terr) (so : List Int) (v : Nat) : Bool := burnsB t (v : Int) && so.any (fun x => x == (v : Int))
def relD (s : List Int) (c : Nat) (x : Int) : List Int := if gI s c = -1 ∨ x < gI s c then s.set c x else s
theorem relD_len (s : List Int) (c : Nat) (x : Int) : (relD s c x).length = s.length := by
  unfold relD; split <;> simp
theorem relD_st {s : List Int} {c : Nat} {x : Int} (hc : c < s.length) (hx : 0 ≤ x ∧ x < 100000) (hs : -1 ≤ gI s c) : stF (relD s c x) = relax (stF s) c x.toNat := by
  funext v
  unfold relD relax stF
  by_cases hcond : gI s c = -1 ∨ x < gI s c
  · rw [if_pos hcond, gI_set hc]
    by_cases e : v = c
    · rw [if_pos e, if_pos e]
      unfold valT
      split <;> split <;> omega
    · rw [if_neg e, if_neg e]
  · rw [if_neg hcond]
    by_cases e : v = c
    · rw [if_pos e, e]
      unfold valT
      split <;> omega
    · rw [if_neg e]
theorem relD_get {s : List Int} {c v : Nat} {x : Int} (hc : c < s.length) : gI (relD s c x) v = if v = c ∧ (gI s c = -1 ∨ x < gI s c) then x else gI s v := by
  unfold relD
  by_cases hcond : gI s c = -1 ∨ x < gI s c
  · rw [if_pos hcond, gI_set hc]
    by_cases e : v = c
    · rw [if_pos e, if_pos ⟨e, hcond⟩]
    · rw [if_neg e, if_neg (fun h => e h.1)]
  · rw [if_neg hcond, if_neg (fun h => hcond h.2)]
theorem burnAt_bd {t : Terr} (hg : goodT t = true) (a : Int) : 0 ≤ burnAt t a ∧ burnAt t a ≤ 20 := by
  unfold burnAt
  rcases h : t.burn[a.toNat]? with _ | x
  · simp [h]
  · have := (goodT_bd hg).2.2.2.2.2 x (List.mem_of_getElem? h)
    simp [h, this]
theorem work_bd {t : Terr} (hg : goodT t = true) (a b : Int) : 0 ≤ workF t a b ∧ workF t a b ≤ 120 := by
  have h1 := burnAt_bd hg a
  have h2 := burnAt_bd hg b
  unfold workF
  split <;> omega
theorem work_pos {t : Terr} (hg : goodT t = true) {a b : Int} (hb : burnsB t b = true) : 0 < workF t a b := by
  have h1 := burnAt_bd hg a
  simp only [burnsB, decide_eq_true_eq] at hb
  unfold workF
  split <;> omega
theorem edges_ok {t : Terr} {ps : List Phase} (hg : goodT t = true) (hp : phasesB ps = true) : Edges t.n (edgeF t) (costF t ps) := by
  have hs := speed_ok hp
  refine ⟨fun a b x y _ _ _ h => ?_, fun a b x _ _ h => ?_⟩
  · unfold costF
    have := doneF_mono hs (t := (x : Int)) (t' := (y : Int)) (w := workF t a b) (by omega) (by omega)
    omega
  · simp only [edgeF, Bool.and_eq_true] at h
    have := doneF_more hs (t := (x : Int)) (w := workF t a b) (by omega) (work_pos hg h.2)
    unfold costF
    omega
/-- A list of arrivals. -/
structure ArrOk (t : Terr) (ps : List Phase) (so : List Int) (st : Int) (s : List Int) : Prop where
  len : s.length = t.n
  bd : ∀ v, v < t.n → -1 ≤ gI s v ∧ gI s v ≤ 9999
  cert : Cert t.n 100000 st.toNat (edgeF t) (costF t ps) (srcF t so) (stF s)
theorem arr_same {t : Terr} {ps : List Phase} {so : List Int} {st : Int} {s s' : List Int} (hg : goodT t = true) (hp : phasesB ps = true) (h : ArrOk t ps so st s) (h' : ArrOk t ps so st s') : s = s' := by
  apply List.ext_getElem?
  intro v
  rcases Nat.lt_or_ge v t.n with hv | hv
  · rw [gI_some (by rw [h.len]; exact hv), gI_some (by rw [h'.len]; exact hv)]
    have h1 := Cert.same (edges_ok hg hp) h.cert h'.cert hv
    have h2 := h.bd v hv
    have h3 := h'.bd v hv
    congr 1
    unfold stF valT at h1
    split at h1 <;> split at h1 <;> omega
  · rw [List.getElem?_eq_none (by rw [h.len]; exact hv), List.getElem?_eq_none (by rw [h'.len]; exact hv)]
noncomputable def arrF (t : Terr) (ps : List Phase) (so : List Int) (st : Int) : List Int := (List.replicate 0 (-1)) ++ (Classical.epsilon fun s => ArrOk t ps so st s)
theorem arrF_of {t : Terr} {ps : List Phase} {so : List Int} {st : Int} {s : List Int} (hg : goodT t = true) (hp : phasesB ps = true) (h : ArrOk t ps so st s) : arrF t ps so st = s := by
  have h1 : ArrOk t ps so st (Classical.epsilon fun s => ArrOk t ps so st s) := Classical.epsilon_spec (p := fun s => ArrOk t ps so st s) ⟨s, h⟩
  exact arr_same hg hp h1 h
theorem cost_bd {t : Terr} {ps : List Phase} (hg : goodT t = true) (hp : phasesB ps = true) {x : Int} (hx : 0 ≤ x) (a b : Int) : x ≤ doneF (speedF ps) x (workF t a b) ∧ doneF (speedF ps) x (workF t a b) ≤ x + 120 := by
  have h1 := work_bd hg a b
  have := doneF_ge (speed_ok hp) _ x (workF t a b) hx (Nat.le_refl _)
  omega
theorem setT_at {t : Terr} {xs : List Int} (h : setT t xs = true) : ∀ x ∈ xs, 0 ≤ x ∧ x < t.n := fun x hx => by
  rw [setT, setB_eq, Bool.and_eq_true] at h
  have := inB_iff.1 (List.all_eq_true.1 h.2 x hx)
  omega
theorem any_filt {t : Terr} {so : List Int} {v : Nat} : ((so.filter (burnsB t)).any fun x => x == (v : Int)) = srcF t so v := by
  unfold srcF
  induction so with
  | nil => simp
  | cons x xs ih =>
    rw [List.filter_cons, List.any_cons]
    by_cases e : x = (v : Int)
    · rcases hb : burnsB t x with _ | _
      · rw [if_neg (by simp), ih, ← e, hb]; rfl
      · rw [if_pos rfl, List.any_cons, ih, ← e, hb]; simp
    · have e2 : (x == (v : Int)) = false := by simpa using e
      rcases hb : burnsB t x with _ | _
      · rw [if_neg (by simp), ih, e2]; simp
      · rw [if_pos rfl, List.any_cons, ih, e2]; simp
/-- The start. -/
theorem st_start {t : Terr} {so : List Int} {st : Int} {s : List Int} (h0 : 0 ≤ st ∧ st ≤ 1000) (h : ∀ v, v < t.n → gI s v = if srcF t so v then st else -1) : ∀ v, v < t.n → stF s v = if srcF t so v then st.toNat else 100000 := fun v hv => by
  unfold stF valT
  rw [h v hv]
  split
  · rw [if_neg (by omega)]
  · rw [if_pos (by omega)]
/-! ### settled places -/
def gB (fx : List Bool) (v : Nat) : Bool := fx.getD v false
theorem gB_get {fx : List Bool} {v : Nat} {x : Bool} (h : fx[v]? = some x) : gB fx v = x := by simp [gB, h]
theorem gB_some {fx : List Bool} {v : Nat} (h : v < fx.length) : fx[v]? = some (gB fx v) := by simp [gB, h]
theorem gB_set {fx : List Bool} {c v : Nat} {x : Bool} (hc : c < fx.length) : gB (fx.set c x) v = if v = c then x else gB fx v := by
  unfold gB
  simp only [List.getD_eq_getElem?_getD, List.getElem?_set]
  by_cases e : c = v
  · subst e; simp [hc]
  · simp [e, Ne.symm e]
def cntB (fx : List Bool) : Nat := fx.count true
theorem cntB_le (fx : List Bool) : cntB fx ≤ fx.length := List.count_le_length
theorem cntB_set : ∀ {fx : List Bool} {u : Nat}, u < fx.length → gB fx u = false → cntB (fx.set u true) = cntB fx + 1
  | [], _, h, _ => by simp at h
  | x :: xs, 0, _, h => by
    obtain rfl : x = false := by simpa [gB] using h
    simp [cntB]
  | x :: xs, u + 1, hu, h => by
    have ih := cntB_set (fx := xs) (u := u) (by simpa using hu) (by simpa [gB] using h)
    unfold cntB at ih ⊢
    rw [List.set_cons_succ, List.count_cons, List.count_cons, ih]
    omega
theorem near_pick {n B t0 : Nat} {edge : Nat → Nat → Bool} {f : Nat → Nat → Nat → Nat} {S : Nat → Bool} {s : Nat → Nat} {fx : List Bool} {u : Nat} (hl : fx.length = n) (h : Near n B t0 edge f S s (gB fx)) (hu : u < n) (hf : gB fx u = false) (hb : s u < B) (hmin : ∀ v, v < n → gB fx v = false → s u ≤ s v) : Mid n B t0 edge f S s (gB (fx.set u true)) u (fun _ => false) :=
  h.pick hu hf hb hmin fun v _ => by
    rw [gB_set (by omega)]
    by_cases e : v = u
    · simp [e]
    · simp [e]
end Go.Proofs.Ytdfjfopbhlbmkaa

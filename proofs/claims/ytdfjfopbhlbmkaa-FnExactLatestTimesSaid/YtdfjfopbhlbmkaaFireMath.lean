/-
  How long work takes at a speed that changes; and what arrivals over edges are: one answer alone.
-/
import Derived.Test.YtdfjfopbhlbmkaaBase
namespace Go.Proofs.Ytdfjfopbhlbmkaa
open Go.RowKit

/-! ### work -/
def doneU (sp : Int → Int) : Nat → Int → Int → Int
  | 0, t, _ => t
  | k + 1, t, w => if w ≤ 0 then t else doneU sp k (t + 1) (w - sp t)
def doneF (sp : Int → Int) (t w : Int) : Int := doneU sp w.toNat t w
section
variable {sp : Int → Int}
theorem doneU_zero {k : Nat} {t w : Int} (h : w ≤ 0) : doneU sp k t w = t := by
  rcases k with _ | k
  · rfl
  · rw [doneU, if_pos h]
theorem doneU_fuel (hs : ∀ t, 0 ≤ t → 1 ≤ sp t) : ∀ (k j : Nat) (t w : Int), 0 ≤ t → w.toNat ≤ k → w.toNat ≤ j → doneU sp k t w = doneU sp j t w
  | 0, j, t, w, _, hk, _ => by rw [doneU_zero (by omega), doneU_zero (by omega)]
  | k + 1, 0, t, w, _, _, hj => by rw [doneU_zero (by omega), doneU_zero (by omega)]
  | k + 1, j + 1, t, w, ht, hk, hj => by
    by_cases h : w ≤ 0
    · rw [doneU_zero h, doneU_zero h]
    · have := hs t ht
      rw [doneU, if_neg h, doneU, if_neg h]
      exact doneU_fuel hs k j (t + 1) _ (by omega) (by omega) (by omega)
theorem doneF_zero {t w : Int} (h : w ≤ 0) : doneF sp t w = t := doneU_zero h
theorem doneF_step (hs : ∀ t, 0 ≤ t → 1 ≤ sp t) {t w : Int} (ht : 0 ≤ t) (h : 0 < w) : doneF sp t w = doneF sp (t + 1) (w - sp t) := by
  have h1 := hs t ht
  obtain ⟨k, hk⟩ : ∃ k, w.toNat = k + 1 := ⟨w.toNat - 1, by omega⟩
  rw [doneF, doneF, hk, doneU, if_neg (by omega)]
  exact doneU_fuel hs _ _ _ _ (by omega) (by omega) (by omega)
theorem doneF_ge (hs : ∀ t, 0 ≤ t → 1 ≤ sp t) : ∀ (k : Nat) (t w : Int), 0 ≤ t → w.toNat ≤ k → t ≤ doneF sp t w ∧ doneF sp t w ≤ t + w.toNat
  | 0, t, w, _, hk => by rw [doneF_zero (by omega)]; omega
  | k + 1, t, w, ht, hk => by
    by_cases h : w ≤ 0
    · rw [doneF_zero h]; omega
    · have h1 := hs t ht
      rw [doneF_step hs ht (by omega)]
      have := doneF_ge hs k (t + 1) (w - sp t) (by omega) (by omega)
      omega
theorem doneF_more (hs : ∀ t, 0 ≤ t → 1 ≤ sp t) {t w : Int} (ht : 0 ≤ t) (h : 0 < w) : t < doneF sp t w := by
  rw [doneF_step hs ht h]
  have := (doneF_ge hs _ (t + 1) (w - sp t) (by omega) (Nat.le_refl _)).1
  omega
theorem doneF_work (hs : ∀ t, 0 ≤ t → 1 ≤ sp t) : ∀ (k : Nat) (t w w' : Int), 0 ≤ t → w'.toNat ≤ k → w ≤ w' → doneF sp t w ≤ doneF sp t w'
  | 0, t, w, w', _, hk, h => by rw [doneF_zero (by omega), doneF_zero (by omega)]; omega
  | k + 1, t, w, w', ht, hk, h => by
    have h1 := hs t ht
    by_cases h0 : w ≤ 0
    · rw [doneF_zero h0]
      exact (doneF_ge hs _ t w' ht (Nat.le_refl _)).1
    · rw [doneF_step hs ht (by omega), doneF_step hs ht (show 0 < w' by omega)]
      exact doneF_work hs k (t + 1) _ _ (by omega) (by omega) (by omega)
theorem doneF_next (hs : ∀ t, 0 ≤ t → 1 ≤ sp t) {t w : Int} (ht : 0 ≤ t) : doneF sp t w ≤ doneF sp (t + 1) w := by
  by_cases h0 : w ≤ 0
  · rw [doneF_zero h0, doneF_zero h0]; omega
  · have h1 := hs t ht
    rw [doneF_step hs ht (by omega)]
    exact doneF_work hs _ (t + 1) _ _ (by omega) (Nat.le_refl _) (by omega)
theorem doneF_mono (hs : ∀ t, 0 ≤ t → 1 ≤ sp t) {t t' w : Int} (ht : 0 ≤ t) (h : t ≤ t') : doneF sp t w ≤ doneF sp t' w := by
  obtain ⟨d, rfl⟩ : ∃ d : Nat, t' = t + d := ⟨(t' - t).toNat, by omega⟩
  clear h
  induction d with
  | zero => simp
  | succ d ih =>
    have := doneF_next hs (t := t + d) (w := w) (by omega)
    push_cast
    rw [← Int.add_assoc]
    omega
end

/-! ### arrivals -/
/-- Sound edges: later in, later out; it takes time. -/
structure Edges (n : Nat) (edge : Nat → Nat → Bool) (f : Nat → Nat → Nat → Nat) : Prop where
  mono : ∀ a b t t', a < n → b < n → edge a b = true → t ≤ t' → f a b t ≤ f a b t'
  more : ∀ a b t, a < n → b < n → edge a b = true → t < f a b t
/-- What arrivals are: no edge is better, and each arrival has its reason. 'B' stands for 'never'. -/
structure Cert (n B t0 : Nat) (edge : Nat → Nat → Bool) (f : Nat → Nat → Nat → Nat) (S : Nat → Bool) (s : Nat → Nat) : Prop where
  le : ∀ v, v < n → s v ≤ B
  from_ : ∀ v, v < n → S v = true → s v ≤ t0
  fix : ∀ a b, a < n → b < n → edge a b = true → s a < B → s b ≤ f a b (s a)
  why : ∀ v, v < n → s v < B → (S v = true ∧ s v = t0) ∨ ∃ a, a < n ∧ edge a v = true ∧ s a < B ∧ f a v (s a) ≤ s v
theorem Cert.below {n B t0 : Nat} {edge : Nat → Nat → Bool} {f : Nat → Nat → Nat → Nat} {S : Nat → Bool} {s s' : Nat → Nat} (he : Edges n edge f) (h : Cert n B t0 edge f S s) (h' : Cert n B t0 edge f S s') :
    ∀ (k v : Nat), v < n → s' v ≤ k → s v ≤ s' v := by
  intro k
  induction k with
  | zero =>
    intro v hv hk
    rcases Nat.lt_or_ge (s' v) B with hb | hb
    · rcases h'.why v hv hb with ⟨h1, h2⟩ | ⟨a, ha, h1, _, h2⟩
      · have := h.from_ v hv h1; omega
      · have := he.more a v (s' a) ha hv h1; omega
    · have := h.le v hv; omega
  | succ k ih =>
    intro v hv hk
    rcases Nat.lt_or_ge (s' v) B with hb | hb
    · rcases h'.why v hv hb with ⟨h1, h2⟩ | ⟨a, ha, h1, hab, h2⟩
      · have := h.from_ v hv h1; omega
      · have hm := he.more a v (s' a) ha hv h1
        have h3 := ih a ha (by omega)
        have h4 := h.fix a v ha hv h1 (by omega)
        have h5 := he.mono a v _ _ ha hv h1 h3
        omega
    · have := h.le v hv; omega
/-- One answer alone. -/
theorem Cert.same {n B t0 : Nat} {edge : Nat → Nat → Bool} {f : Nat → Nat → Nat → Nat} {S : Nat → Bool} {s s' : Nat → Nat} (he : Edges n edge f) (h : Cert n B t0 edge f S s) (h' : Cert n B t0 edge f S s') {v : Nat} (hv : v < n) : s v = s' v := by
  have h1 := Cert.below he h h' _ v hv (Nat.le_refl _)
  have h2 := Cert.below he h' h _ v hv (Nat.le_refl _)
  omega
def relax (s : Nat → Nat) (c x : Nat) : Nat → Nat := fun v => if v = c then min (s c) x else s v
section
variable {n B t0 : Nat} {edge : Nat → Nat → Bool} {f : Nat → Nat → Nat → Nat} {S : Nat → Bool}
/-- The nearest first: what holds when the places in 'fx' are settled; of the place u the edges to the places in P are taken. -/
structure Mid (n B t0 : Nat) (edge : Nat → Nat → Bool) (f : Nat → Nat → Nat → Nat) (S : Nat → Bool) (s : Nat → Nat) (fx : Nat → Bool) (u : Nat) (P : Nat → Bool) : Prop where
  le : ∀ v, v < n → s v ≤ B
  from_ : ∀ v, v < n → S v = true → s v ≤ t0
  fix : ∀ a b, a < n → b < n → fx a = true → edge a b = true → (a = u → P b = true) → s b ≤ f a b (s a)
  ord : ∀ a b, a < n → b < n → fx a = true → fx b = false → s a ≤ s b
  top : ∀ a, a < n → fx a = true → s a ≤ s u
  rch : ∀ a, a < n → fx a = true → s a < B
  why : ∀ v, v < n → s v < B → (S v = true ∧ s v = t0) ∨ ∃ a, a < n ∧ fx a = true ∧ edge a v = true ∧ f a v (s a) ≤ s v
/-- All edges of settled places are taken. -/
structure Near (n B t0 : Nat) (edge : Nat → Nat → Bool) (f : Nat → Nat → Nat → Nat) (S : Nat → Bool) (s : Nat → Nat) (fx : Nat → Bool) : Prop where
  le : ∀ v, v < n → s v ≤ B
  from_ : ∀ v, v < n → S v = true → s v ≤ t0
  fix : ∀ a b, a < n → b < n → fx a = true → edge a b = true → s b ≤ f a b (s a)
  ord : ∀ a b, a < n → b < n → fx a = true → fx b = false → s a ≤ s b
  rch : ∀ a, a < n → fx a = true → s a < B
  why : ∀ v, v < n → s v < B → (S v = true ∧ s v = t0) ∨ ∃ a, a < n ∧ fx a = true ∧ edge a v = true ∧ f a v (s a) ≤ s v
theorem near_start (h0 : t0 < B) : Near n B t0 edge f S (fun v => if S v then t0 else B) (fun _ => false) := by
  refine ⟨fun v _ => ?_, fun v _ h => ?_, fun a b _ _ h => by simp at h, fun a b _ _ h => by simp at h, fun a _ h => by simp at h, fun v _ h => ?_⟩
  · split <;> omega
  · simp [h]
  · split at h
    · rename_i hs; left; exact ⟨hs, by simp [hs]⟩
    · omega
theorem Near.pick {s : Nat → Nat} {fx fx' : Nat → Bool} {u : Nat} (h : Near n B t0 edge f S s fx) (hu : u < n) (hf : fx u = false) (hb : s u < B) (hmin : ∀ v, v < n → fx v = false → s u ≤ s v) (hfx : ∀ v, v < n → fx' v = (fx v || decide (v = u))) : Mid n B t0 edge f S s fx' u (fun _ => false) := by
  have old : ∀ a, a < n → fx' a = true → a ≠ u → fx a = true := fun a ha h1 h2 => by
    rw [hfx a ha] at h1; simpa [h2] using h1
  have new : ∀ a, a < n → fx a = true → fx' a = true := fun a ha h1 => by rw [hfx a ha, h1]; rfl
  refine ⟨h.le, h.from_, fun a b ha hb' h1 h2 h3 => ?_, fun a b ha hb' h1 h2 => ?_, fun a ha h1 => ?_, fun a ha h1 => ?_, fun v hv h1 => ?_⟩
  · by_cases e : a = u
    · have := h3 e; simp at this
    · exact h.fix a b ha hb' (old a ha h1 e) h2
  · have hfb : fx b = false := by
      rw [hfx b hb'] at h2
      simp only [Bool.or_eq_false_iff] at h2
      exact h2.1
    by_cases e : a = u
    · rw [e]; exact hmin b hb' hfb
    · exact h.ord a b ha hb' (old a ha h1 e) hfb
  · by_cases e : a = u
    · rw [e]; exact Nat.le_refl _
    · exact h.ord a u ha hu (old a ha h1 e) hf
  · by_cases e : a = u
    · rw [e]; exact hb
    · exact h.rch a ha (old a ha h1 e)
  · rcases h.why v hv h1 with h2 | ⟨a, ha, h2, h3⟩
    · exact Or.inl h2
    · exact Or.inr ⟨a, ha, new a ha h2, h3⟩
theorem Mid.skip {s : Nat → Nat} {fx P P' : Nat → Bool} {u c : Nat} (he : Edges n edge f) (h : Mid n B t0 edge f S s fx u P) (hu : u < n) (hP : ∀ b, P' b = true → P b = true ∨ b = c) (hc : edge u c = false ∨ fx c = true) : Mid n B t0 edge f S s fx u P' := by
  refine ⟨h.le, h.from_, fun a b ha hb h1 h2 h3 => ?_, h.ord, h.top, h.rch, h.why⟩
  by_cases e : a = u
  · rcases hP b (h3 e) with h4 | h4
    · exact h.fix a b ha hb h1 h2 (fun _ => h4)
    · rw [h4] at h2 hb ⊢
      rcases hc with hc | hc
      · rw [e, hc] at h2; cases h2
      · have h5 := h.top c hb hc
        rw [e] at h2 ⊢
        have h6 := he.more u c (s u) hu hb h2
        omega
  · exact h.fix a b ha hb h1 h2 (fun h5 => absurd h5 e)
theorem Mid.relax {s : Nat → Nat} {fx P P' : Nat → Bool} {u c : Nat} (he : Edges n edge f) (h : Mid n B t0 edge f S s fx u P) (hu : u < n) (hfu : fx u = true) (hcn : c < n) (hP : ∀ b, P' b = true → P b = true ∨ b = c) (hc : edge u c = true) (hf : fx c = false) : Mid n B t0 edge f S (relax s c (f u c (s u))) fx u P' := by
  have hne : ∀ a, fx a = true → a ≠ c := fun a h1 h2 => by rw [h2, hf] at h1; cases h1
  have keep : ∀ a, fx a = true → Go.Proofs.Ytdfjfopbhlbmkaa.relax s c (f u c (s u)) a = s a := fun a h1 => by
    unfold Go.Proofs.Ytdfjfopbhlbmkaa.relax; rw [if_neg (hne a h1)]
  have hle : ∀ v, Go.Proofs.Ytdfjfopbhlbmkaa.relax s c (f u c (s u)) v ≤ s v := fun v => by
    unfold Go.Proofs.Ytdfjfopbhlbmkaa.relax
    split
    · rename_i e; rw [e]; omega
    · exact Nat.le_refl _
  have hm := he.more u c (s u) hu hcn hc
  refine ⟨fun v hv => Nat.le_trans (hle v) (h.le v hv), fun v hv h1 => Nat.le_trans (hle v) (h.from_ v hv h1), fun a b ha hb h1 h2 h3 => ?_, fun a b ha hb h1 h2 => ?_, fun a ha h1 => ?_, fun a ha h1 => ?_, fun v hv h1 => ?_⟩
  · rw [keep a h1]
    by_cases e : a = u ∧ b = c
    · obtain ⟨rfl, rfl⟩ := e
      unfold Go.Proofs.Ytdfjfopbhlbmkaa.relax
      rw [if_pos rfl]; omega
    · refine Nat.le_trans (hle b) (h.fix a b ha hb h1 h2 (fun h5 => ?_))
      rcases hP b (h3 h5) with h6 | h6
      · exact h6
      · exact absurd ⟨h5, h6⟩ e
  · rw [keep a h1]
    have h3 := h.ord a b ha hb h1 h2
    have h4 := h.top a ha h1
    unfold Go.Proofs.Ytdfjfopbhlbmkaa.relax
    split
    · rename_i e; rw [e] at h3; omega
    · exact h3
  · rw [keep a h1, keep u hfu]; exact h.top a ha h1
  · rw [keep a h1]; exact h.rch a ha h1
  · by_cases e : v = c
    · rw [e] at h1 ⊢
      by_cases h2 : f u c (s u) < s c
      · refine Or.inr ⟨u, hu, hfu, hc, ?_⟩
        rw [keep u hfu]
        unfold Go.Proofs.Ytdfjfopbhlbmkaa.relax
        rw [if_pos rfl]; omega
      · have e2 : Go.Proofs.Ytdfjfopbhlbmkaa.relax s c (f u c (s u)) c = s c := by unfold Go.Proofs.Ytdfjfopbhlbmkaa.relax; rw [if_pos rfl]; omega
        rw [e2] at h1 ⊢
        rcases h.why c hcn h1 with h3 | ⟨a, ha, h3, h4, h5⟩
        · exact Or.inl h3
        · exact Or.inr ⟨a, ha, h3, h4, by rw [keep a h3]; exact h5⟩
    · have e2 : Go.Proofs.Ytdfjfopbhlbmkaa.relax s c (f u c (s u)) v = s v := by unfold Go.Proofs.Ytdfjfopbhlbmkaa.relax; rw [if_neg e]
      rw [e2] at h1 ⊢
      rcases h.why v hv h1 with h3 | ⟨a, ha, h3, h4, h5⟩
      · exact Or.inl h3
      · exact Or.inr ⟨a, ha, h3, h4, by rw [keep a h3]; exact h5⟩
theorem Mid.done {s : Nat → Nat} {fx P : Nat → Bool} {u : Nat} (h : Mid n B t0 edge f S s fx u P) (hP : ∀ b, b < n → edge u b = true → P b = true) : Near n B t0 edge f S s fx :=
  ⟨h.le, h.from_, fun a b ha hb h1 h2 => h.fix a b ha hb h1 h2 (fun e => hP b hb (by rw [← e]; exact h2)), h.ord, h.rch, h.why⟩
theorem Near.cert {s : Nat → Nat} {fx : Nat → Bool} (h : Near n B t0 edge f S s fx) (hall : ∀ v, v < n → s v < B → fx v = true) : Cert n B t0 edge f S s :=
  ⟨h.le, h.from_, fun a b ha hb h1 h2 => h.fix a b ha hb (hall a ha h2) h1, fun v hv h1 => by
    rcases h.why v hv h1 with h2 | ⟨a, ha, h2, h3, h4⟩
    · exact Or.inl h2
    · exact Or.inr ⟨a, ha, h3, h.rch a ha h2, h4⟩⟩
/-- Relaxing until nothing changes: what always holds. -/
structure Loose (n B t0 : Nat) (edge : Nat → Nat → Bool) (f : Nat → Nat → Nat → Nat) (S : Nat → Bool) (s : Nat → Nat) : Prop where
  le : ∀ v, v < n → s v ≤ B
  from_ : ∀ v, v < n → S v = true → s v ≤ t0
  why : ∀ v, v < n → s v < B → (S v = true ∧ s v = t0) ∨ ∃ a, a < n ∧ edge a v = true ∧ s a < B ∧ f a v (s a) ≤ s v
theorem loose_start (h0 : t0 < B) : Loose n B t0 edge f S (fun v => if S v then t0 else B) := by
  refine ⟨fun v _ => ?_, fun v _ h => ?_, fun v _ h => ?_⟩
  · split <;> omega
  · simp [h]
  · split at h
    · rename_i hs; left; exact ⟨hs, by simp [hs]⟩
    · omega
theorem Loose.relax {s : Nat → Nat} {a c : Nat} (he : Edges n edge f) (h : Loose n B t0 edge f S s) (ha : a < n) (hcn : c < n) (hc : edge a c = true) (hab : s a < B) : Loose n B t0 edge f S (Go.Proofs.Ytdfjfopbhlbmkaa.relax s c (f a c (s a))) := by
  have hle : ∀ v, Go.Proofs.Ytdfjfopbhlbmkaa.relax s c (f a c (s a)) v ≤ s v := fun v => by
    unfold Go.Proofs.Ytdfjfopbhlbmkaa.relax
    split
    · rename_i e; rw [e]; omega
    · exact Nat.le_refl _
  have old : ∀ v, v < n → s v < B → Go.Proofs.Ytdfjfopbhlbmkaa.relax s c (f a c (s a)) v = s v → (S v = true ∧ Go.Proofs.Ytdfjfopbhlbmkaa.relax s c (f a c (s a)) v = t0) ∨ ∃ b, b < n ∧ edge b v = true ∧ Go.Proofs.Ytdfjfopbhlbmkaa.relax s c (f a c (s a)) b < B ∧ f b v (Go.Proofs.Ytdfjfopbhlbmkaa.relax s c (f a c (s a)) b) ≤ Go.Proofs.Ytdfjfopbhlbmkaa.relax s c (f a c (s a)) v := fun v hv h1 e => by
    rw [e]
    rcases h.why v hv h1 with h2 | ⟨b, hb, h2, h3, h4⟩
    · exact Or.inl h2
    · exact Or.inr ⟨b, hb, h2, Nat.lt_of_le_of_lt (hle b) h3, Nat.le_trans (he.mono b v _ _ hb hv h2 (hle b)) h4⟩
  refine ⟨fun v hv => Nat.le_trans (hle v) (h.le v hv), fun v hv h1 => Nat.le_trans (hle v) (h.from_ v hv h1), fun v hv h1 => ?_⟩
  by_cases e : v = c
  · subst e
    by_cases h2 : f a v (s a) < s v
    · refine Or.inr ⟨a, ha, hc, Nat.lt_of_le_of_lt (hle a) hab, ?_⟩
      have e2 : Go.Proofs.Ytdfjfopbhlbmkaa.relax s v (f a v (s a)) v = f a v (s a) := by unfold Go.Proofs.Ytdfjfopbhlbmkaa.relax; rw [if_pos rfl]; omega
      rw [e2]
      exact he.mono a v _ _ ha hv hc (hle a)
    · have e2 : Go.Proofs.Ytdfjfopbhlbmkaa.relax s v (f a v (s a)) v = s v := by unfold Go.Proofs.Ytdfjfopbhlbmkaa.relax; rw [if_pos rfl]; omega
      have h3 := h1
      rw [e2] at h3
      exact old v hv h3 e2
  · have e2 : Go.Proofs.Ytdfjfopbhlbmkaa.relax s c (f a c (s a)) v = s v := by unfold Go.Proofs.Ytdfjfopbhlbmkaa.relax; rw [if_neg e]
    have h3 := h1
    rw [e2] at h3
    exact old v hv h3 e2
theorem Loose.cert {s : Nat → Nat} (h : Loose n B t0 edge f S s) (hfix : ∀ a b, a < n → b < n → edge a b = true → s a < B → s b ≤ f a b (s a)) : Cert n B t0 edge f S s := ⟨h.le, h.from_, hfix, h.why⟩
end
end Go.Proofs.Ytdfjfopbhlbmkaa

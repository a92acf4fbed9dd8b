/-
  The search for a way through a net, plainly: what the marks tell, with any queue of marked nodes still to be looked at.
-/
import Derived.Test.YtcdgkiiokplidaaFlowMath
namespace Go.Proofs.Ytcdgkiiokplidaa

def Markd (B : List Int) (v : Nat) : Prop := ∃ u : Nat, B[v]? = some (u : Int)
/-- The way back from v to s by the marks B, every arc of which can be passed. -/
inductive Way (s : Nat) (B : List Int) (R : Nat → Nat → Int) : Nat → List Nat → Prop
  | here : Way s B R s []
  | step {v u : Nat} {l : List Nat} : v ≠ s → B[v]? = some (u : Int) → 1 ≤ R u v → v ∉ l → Way s B R u l → Way s B R v (v :: l)
theorem Way.markd {s v : Nat} {B : List Int} {R : Nat → Nat → Int} {l : List Nat} (h : Way s B R v l) : ∀ z ∈ l, Markd B z := by
  induction h with
  | here => simp
  | step _ h2 _ _ _ ih =>
    intro z hz
    rcases List.mem_cons.1 hz with rfl | hz
    · exact ⟨_, h2⟩
    · exact ih z hz
theorem Way.set {s v y : Nat} {b : Int} {B : List Int} {R : Nat → Nat → Int} {l : List Nat} (h : Way s B R v l) (hy : ¬ Markd B y) : Way s (B.set y b) R v l := by
  induction h with
  | here => exact .here
  | step h1 h2 h3 h4 _ ih =>
    refine .step h1 ?_ h3 h4 ih
    rw [List.getElem?_set_ne (fun e => hy ⟨_, e ▸ h2⟩)]
    exact h2
theorem Way.head {s v : Nat} {B : List Int} {R : Nat → Nat → Int} {l : List Nat} (h : Way s B R v l) : v = s ∨ v ∈ l := by
  cases h with
  | here => exact .inl rfl
  | step => exact .inr (List.mem_cons_self ..)
/-- One unit less on an arc to a node that the way does not hold. -/
theorem Way.push {s v x y : Nat} {B : List Int} {R : Nat → Nat → Int} {l : List Nat} (h : Way s B R v l) (hy : y ∉ l) : Way s B (push1 R x y) v l := by
  induction h with
  | here => exact .here
  | step h1 h2 h3 h4 _ ih =>
    have hn : y ≠ _ ∧ y ∉ _ := ⟨fun e => hy (List.mem_cons.2 (.inl e)), fun e => hy (List.mem_cons.2 (.inr e))⟩
    refine .step h1 h2 ?_ h4 (ih hn.2)
    unfold push1
    rw [if_neg (fun e => hn.1 e.2.symm)]
    split <;> omega
theorem Way.next {s v : Nat} {B : List Int} {R : Nat → Nat → Int} {l : List Nat} (h : Way s B R v l) (hv : v ≠ s) : ∃ (u : Nat) (l' : List Nat), l = v :: l' ∧ B[v]? = some (u : Int) ∧ 1 ≤ R u v ∧ u ≠ v ∧ v ∉ l' ∧ Way s B R u l' := by
  cases h with
  | here => exact absurd rfl hv
  | step h1 h2 h3 h4 h5 =>
    refine ⟨_, _, rfl, h2, h3, fun e => ?_, h4, h5⟩
    rcases h5.head with e1 | e1
    · exact h1 (e.symm.trans e1)
    · exact h4 (e ▸ e1)
/-- The search at a round's head: Q is still to be looked at. -/
structure Bfs (N s : Nat) (R : Nat → Nat → Int) (B : List Int) (Q : List Nat) (m : Nat) : Prop where
  len : B.length = N
  val : ∀ (v : Nat) (b : Int), B[v]? = some b → b = -1 ∨ ∃ u : Nat, b = u ∧ u < N
  src : Markd B s
  inq : ∀ v ∈ Q, Markd B v
  way : ∀ v, Markd B v → ∃ l, Way s B R v l
  clos : ∀ x, Markd B x → x ∉ Q → ∀ y, y < N → 0 < R x y → Markd B y
  cnt : 2 * B.count (-1) + Q.length ≤ m
/-- .. and while x is looked at, up to the column y. -/
structure Scan (N s : Nat) (R : Nat → Nat → Int) (B : List Int) (Q : List Nat) (x y m : Nat) : Prop where
  len : B.length = N
  val : ∀ (v : Nat) (b : Int), B[v]? = some b → b = -1 ∨ ∃ u : Nat, b = u ∧ u < N
  src : Markd B s
  inq : ∀ v ∈ Q, Markd B v
  way : ∀ v, Markd B v → ∃ l, Way s B R v l
  inx : Markd B x
  clos : ∀ z, Markd B z → z ∉ Q → z ≠ x → ∀ y, y < N → 0 < R z y → Markd B y
  part : ∀ y', y' < y → y' < N → 0 < R x y' → Markd B y'
  cnt : 2 * B.count (-1) + Q.length ≤ m
section
variable {N s : Nat} {R : Nat → Nat → Int} {B : List Int} {Q : List Nat} {x y m : Nat}
theorem mark_lt {v : Nat} (h : Markd B v) : v < B.length := by
  obtain ⟨u, hu⟩ := h
  exact (List.getElem?_eq_some_iff.1 hu).1
theorem mark_set {v y : Nat} {x : Nat} (hy : y < B.length) : Markd (B.set y (x : Int)) v ↔ v = y ∨ Markd B v := by
  unfold Markd
  rw [List.getElem?_set]
  by_cases h : y = v
  · subst h
    rw [if_pos rfl, if_pos hy]
    exact ⟨fun _ => .inl rfl, fun _ => ⟨x, rfl⟩⟩
  · rw [if_neg h]
    exact ⟨.inr, fun e => e.resolve_left (fun e => h e.symm)⟩
theorem not_mark {v : Nat} {b : Int} (hb : B[v]? = some b) (h : b < 0) : ¬ Markd B v := fun ⟨u, hu⟩ => by
  rw [hb] at hu
  have := Option.some.inj hu
  omega
theorem is_mark (h : ∀ (v : Nat) (b : Int), B[v]? = some b → b = -1 ∨ ∃ u : Nat, b = u ∧ u < N) {v : Nat} {b : Int} (hb : B[v]? = some b) (h0 : 0 ≤ b) : Markd B v := by
  rcases h v b hb with rfl | ⟨u, rfl, _⟩
  · omega
  · exact ⟨u, hb⟩
theorem count_set {B : List Int} {y : Nat} {x : Nat} (hy : B[y]? = some (-1)) : (B.set y (x : Int)).count (-1) + 1 = B.count (-1) := by
  induction B generalizing y with
  | nil => simp at hy
  | cons b B ih =>
    cases y with
    | zero =>
      simp only [List.getElem?_cons_zero, Option.some.injEq] at hy
      subst hy
      rw [List.set_cons_zero, List.count_cons, List.count_cons]
      have : ((x : Int) == -1) = false := by simp
      rw [this]
      simp
    | succ y =>
      simp only [List.getElem?_cons_succ] at hy
      rw [List.set_cons_succ, List.count_cons, List.count_cons]
      have := ih hy
      omega
theorem Bfs.start (hs : s < N) (R : Nat → Nat → Int) : Bfs N s R ((List.replicate N (-1)).set s (s : Int)) [s] (2 * N + 1) := by
  have hl : (List.replicate N (-1 : Int)).length = N := List.length_replicate
  have hm : ∀ v, Markd ((List.replicate N (-1)).set s (s : Int)) v ↔ v = s := fun v => by
    rw [mark_set (by rw [hl]; exact hs)]
    refine ⟨fun h => h.resolve_right fun ⟨u, hu⟩ => ?_, .inl⟩
    rw [List.getElem?_replicate] at hu
    split at hu
    · have := Option.some.inj hu; omega
    · cases hu
  refine ⟨by rw [List.length_set, hl], fun v b hb => ?_, (hm s).2 rfl, fun v hv => (hm v).2 (List.mem_singleton.1 hv), fun v hv => ⟨[], by rw [(hm v).1 hv]; exact .here⟩, fun x hx hq => absurd (List.mem_singleton.2 ((hm x).1 hx)) hq, ?_⟩
  · rw [List.getElem?_set] at hb
    split at hb
    · split at hb
      · exact .inr ⟨s, (Option.some.inj hb).symm, hs⟩
      · cases hb
    · rw [List.getElem?_replicate] at hb
      split at hb
      · exact .inl (Option.some.inj hb).symm
      · cases hb
  · have h1 : ((List.replicate N (-1)).set s (s : Int)).count (-1) + 1 = (List.replicate N (-1 : Int)).count (-1) := count_set (by rw [List.getElem?_replicate, if_pos hs])
    rw [List.count_replicate_self] at h1
    simp only [List.length_singleton]
    omega
theorem Bfs.pop (h : Bfs N s R B (x :: Q) m) : ∃ k, k < m ∧ Scan N s R B Q x 0 k := by
  have hc := h.cnt
  simp only [List.length_cons] at hc
  refine ⟨m - 1, by omega, h.len, h.val, h.src, fun v hv => h.inq v (List.mem_cons_of_mem _ hv), h.way, h.inq x (List.mem_cons_self ..), fun z hz hq hzx => h.clos z hz (fun e => (List.mem_cons.1 e).elim hzx hq), fun y' hy => absurd hy (Nat.not_lt_zero _), by omega⟩
theorem Scan.skip (h : Scan N s R B Q x y m) (hy : 0 < R x y → Markd B y) : Scan N s R B Q x (y + 1) m :=
  ⟨h.len, h.val, h.src, h.inq, h.way, h.inx, h.clos, fun y' h1 h2 h3 => by
    by_cases e : y' = y
    · subst e
      exact hy h3
    · exact h.part y' (by omega) h2 h3, h.cnt⟩
theorem Scan.push (h : Scan N s R B Q x y m) (hyN : y < N) (hr : 0 < R x y) {b : Int} (hb : B[y]? = some b) (hb0 : b < 0) : Scan N s R (B.set y (x : Int)) (Q ++ [y]) x (y + 1) m := by
  have hyl : y < B.length := by rw [h.len]; exact hyN
  have hnm := not_mark hb hb0
  have hb1 : B[y]? = some (-1) := by
    rcases h.val y b hb with rfl | ⟨u, rfl, _⟩
    · exact hb
    · omega
  have hM : ∀ v, Markd (B.set y (x : Int)) v ↔ v = y ∨ Markd B v := fun v => mark_set hyl
  have hxy : x ≠ y := fun e => hnm (e ▸ h.inx)
  have hys : y ≠ s := fun e => hnm (e ▸ h.src)
  refine ⟨by rw [List.length_set]; exact h.len, fun v c hc => ?_, (hM s).2 (.inr h.src), fun v hv => ?_, fun v hv => ?_, (hM x).2 (.inr h.inx), fun z hz hq hzx y' hy' hr' => ?_, fun y' h1 h2 h3 => ?_, ?_⟩
  · rw [List.getElem?_set] at hc
    by_cases e : y = v
    · rw [if_pos e, if_pos hyl] at hc
      exact .inr ⟨x, (Option.some.inj hc).symm, by rw [← h.len]; exact mark_lt h.inx⟩
    · rw [if_neg e] at hc
      exact h.val v c hc
  · rcases List.mem_append.1 hv with hv | hv
    · exact (hM v).2 (.inr (h.inq v hv))
    · exact (hM v).2 (.inl (List.mem_singleton.1 hv))
  · by_cases e : v = y
    · subst e
      obtain ⟨l, hl⟩ := h.way x h.inx
      refine ⟨v :: l, .step hys (u := x) (by rw [List.getElem?_set, if_pos rfl, if_pos hyl]) (by omega) (fun e => hnm (hl.markd v e)) (hl.set hnm)⟩
    · obtain ⟨l, hl⟩ := h.way v (((hM v).1 hv).resolve_left e)
      exact ⟨l, hl.set hnm⟩
  · have hzy : z ≠ y := fun e => hq (List.mem_append.2 (.inr (List.mem_singleton.2 e)))
    exact (hM y').2 (.inr (h.clos z (((hM z).1 hz).resolve_left hzy) (fun e => hq (List.mem_append.2 (.inl e))) hzx y' hy' hr'))
  · by_cases e : y' = y
    · exact (hM y').2 (.inl e)
    · exact (hM y').2 (.inr (h.part y' (by omega) h2 h3))
  · have h1 := count_set (x := x) hb1
    have h2 := h.cnt
    rw [List.length_append, List.length_singleton]
    omega
theorem Scan.done (h : Scan N s R B Q x y m) (hy : N ≤ y) : Bfs N s R B Q m :=
  ⟨h.len, h.val, h.src, h.inq, h.way, fun z hz hq y' hy' hr => by
    by_cases e : z = x
    · subst e
      exact h.part y' (by omega) hy' hr
    · exact h.clos z hz hq e y' hy' hr, h.cnt⟩
theorem Bfs.in_lt (h : Bfs N s R B Q m) {v : Nat} (hv : v ∈ Q) : v < N := by rw [← h.len]; exact mark_lt (h.inq v hv)
/-- Nothing is left to be looked at, and t has no mark: no unit more can go. -/
theorem Bfs.cert {t : Nat} {C : Nat → Nat → Int} {k : Int} (h : Bfs N s R B [] m) (hF : FlowSt N s t C R k) {b : Int} (hb : B[t]? = some b) (h0 : b < 0) : Cert N s t C k := by
  classical
  refine ⟨R, fun v => decide (Markd B v), hF, by simpa using h.src, by simpa using not_mark hb h0, fun u v hu hv hx hy => ?_⟩
  have h1 : Markd B u := by simpa using hx
  have h2 : ¬ Markd B v := by simpa using hy
  have h3 := hF.nn u v hu hv
  rcases Int.lt_or_le 0 (R u v) with h4 | h4
  · exact absurd (h.clos u h1 (by simp) v hv h4) h2
  · omega
end
/-- On the way back: where it stands, one unit stands. -/
structure Back (N s t : Nat) (C : Nat → Nat → Int) (k : Int) (B : List Int) (R : Nat → Nat → Int) (y : Nat) (l : List Nat) : Prop where
  mid : Mid N s t C R k y
  way : Way s B R y l
  lt : y < N
theorem Back.next {N s t : Nat} {C : Nat → Nat → Int} {k : Int} {B : List Int} {R : Nat → Nat → Int} {y : Nat} {l : List Nat} (h : Back N s t C k B R y l) (hv : ∀ (v : Nat) (b : Int), B[v]? = some b → b = -1 ∨ ∃ u : Nat, b = u ∧ u < N) (hy : y ≠ s) :
    ∃ (x : Nat) (l' : List Nat), l = y :: l' ∧ B[y]? = some (x : Int) ∧ x < N ∧ x ≠ y ∧ 1 ≤ R x y ∧ Back N s t C k B (push1 R x y) x l' := by
  obtain ⟨x, l', rfl, hb, hr, hxy, hn, hw⟩ := h.way.next hy
  have hx : x < N := by
    rcases hv y _ hb with e | ⟨u, e, hu⟩ <;> omega
  exact ⟨x, l', rfl, hb, hx, hxy, hr, h.mid.step hx h.lt hxy hy hr, hw.push hn, hx⟩
theorem Bfs.back {N s t : Nat} {C : Nat → Nat → Int} {k : Int} {B : List Int} {R : Nat → Nat → Int} {Q : List Nat} {m : Nat} (h : Bfs N s R B Q m) (hF : FlowSt N s t C R k) (ht : t < N) {b : Int} (hb : B[t]? = some b) (h0 : 0 ≤ b) : ∃ l, Back N s t C k B R t l := by
  obtain ⟨l, hl⟩ := h.way t (is_mark h.val hb h0)
  exact ⟨l, hF.mid, hl, ht⟩
theorem Mid.le {N s t y : Nat} {C R : Nat → Nat → Int} {k : Int} (h : Mid N s t C R k y) (hC : ∀ u v, C u v ≤ 1) {u v : Nat} (hu : u < N) (hv : v < N) : 0 ≤ R u v ∧ R u v ≤ 2 := by
  have h1 := h.nn u v hu hv
  have h2 := h.nn v u hv hu
  have h3 := h.sym u v hu hv
  have := hC u v
  have := hC v u
  omega
theorem FlowSt.le {N s t : Nat} {C R : Nat → Nat → Int} {k : Int} (h : FlowSt N s t C R k) (hC : ∀ u v, C u v ≤ 1) {u v : Nat} (hu : u < N) (hv : v < N) : 0 ≤ R u v ∧ R u v ≤ 2 := h.mid.le hC hu hv
end Go.Proofs.Ytcdgkiiokplidaa

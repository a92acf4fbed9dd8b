/-
  Arrivals, the program's way: the walk.
-/
import Derived.Test.YtdfjfopbhlbmkaaArrI
namespace Go.Proofs.Ytdfjfopbhlbmkaa
open Go.RowKit

theorem mix_one {α : Type} {F Z : List α} {v : α} {p : Nat} (hl : F.length = Z.length) (hv : F[p]? = some v) : (F.take p ++ Z.drop p).set p v = F.take (p + 1) ++ Z.drop (p + 1) := by
  have hp : p < F.length := (List.getElem?_eq_some_iff.1 hv).1
  have hpz : p < Z.length := by omega
  rw [List.take_add_one, hv, List.drop_eq_getElem_cons hpz]
  have hlen : (F.take p).length = p := by rw [List.length_take]; omega
  rw [List.set_append_right _ _ (by omega), hlen, Nat.sub_self, List.set_cons_zero]
  simp
def onAt (o : Option Value) : Bool := match o with
  | some (.bool b) => !b
  | _ => false
/-- How many are not yet settled, read in memory. -/
def offW (g n : Nat) (w : World) : Nat := (List.range n).countP fun j => onAt (w.cell? ⟨g, j, none⟩)
theorem off_cnt {fx : List Bool} : (List.range fx.length).countP (fun j => !gB fx j) + cntB fx = fx.length := by
  have e : (List.range fx.length).map (gB fx) = fx := by
    apply List.ext_getElem?
    intro i
    rcases Nat.lt_or_ge i fx.length with h | h
    · rw [List.getElem?_map, List.getElem?_range h, Option.map_some, gB_some h]
    · rw [List.getElem?_eq_none (by simpa using h), List.getElem?_eq_none h]
  have h1 : cntB fx = (List.range fx.length).countP (fun j => gB fx j) := by
    conv => lhs; rw [← e]
    rw [cntB, List.count_eq_countP, List.countP_map]
    congr 1
    funext j
    simp [gB]
  have h2 := List.length_eq_countP_add_countP (fun j => gB fx j) (l := List.range fx.length)
  rw [List.length_range] at h2
  have h3 : (List.range fx.length).countP (fun j => !gB fx j) = (List.range fx.length).countP (fun a => decide ¬gB fx a = true) := by
    congr 1
    funext j
    cases gB fx j <;> simp
  omega
theorem off_eq {W w : World} {gO gF n cO cF : Nat} {s : List Int} {fx : List Bool} (h : AS W gO gF n cO cF s fx w) : offW gF n w = n - cntB fx := by
  have e : offW gF n w = (List.range n).countP fun j => !gB fx j := by
    unfold offW
    apply List.countP_congr
    intro j hj
    rw [(h.at_ (List.mem_range.1 hj)).2]
    simp [onAt]
  have := off_cnt (fx := fx)
  rw [h.lenF] at this
  omega
theorem near_congr {n B t0 : Nat} {edge : Nat → Nat → Bool} {f : Nat → Nat → Nat → Nat} {S : Nat → Bool} {s s' : Nat → Nat} {fx fx' : Nat → Bool} (h : Near n B t0 edge f S s fx) (hs : ∀ v, v < n → s' v = s v) (hf : ∀ v, v < n → fx' v = fx v) : Near n B t0 edge f S s' fx' := by
  refine ⟨fun v hv => ?_, fun v hv h1 => ?_, fun a b ha hb h1 h2 => ?_, fun a b ha hb h1 h2 => ?_, fun a ha h1 => ?_, fun v hv h1 => ?_⟩
  · rw [hs v hv]; exact h.le v hv
  · rw [hs v hv]; exact h.from_ v hv h1
  · rw [hs a ha, hs b hb]; rw [hf a ha] at h1; exact h.fix a b ha hb h1 h2
  · rw [hs a ha, hs b hb]; rw [hf a ha] at h1; rw [hf b hb] at h2; exact h.ord a b ha hb h1 h2
  · rw [hs a ha]; rw [hf a ha] at h1; exact h.rch a ha h1
  · rw [hs v hv] at h1 ⊢
    rcases h.why v hv h1 with h2 | ⟨a, ha, h2, h3, h4⟩
    · exact Or.inl h2
    · exact Or.inr ⟨a, ha, by rw [hf a ha]; exact h2, h3, by rw [hs a ha]; exact h4⟩
theorem gB_rep {n v : Nat} : gB (List.replicate n false) v = false := by
  unfold gB
  rw [List.getD_eq_getElem?_getD, List.getElem?_replicate]
  split <;> rfl
/-- What is known of the best cell among the first i. -/
def BestI (s : List Int) (fx : List Bool) (i : Nat) (b : Int) : Prop :=
  (b = -1 ∧ ∀ v, v < i → gB fx v = false → gI s v = -1) ∨ (∃ u : Nat, b = u ∧ u < i ∧ gB fx u = false ∧ 0 ≤ gI s u ∧ ∀ v, v < i → gB fx v = false → gI s v = -1 ∨ gI s u ≤ gI s v)
theorem best_no {s : List Int} {fx : List Bool} {i : Nat} {b : Int} (h : BestI s fx i b) (hc : gB fx i = false → gI s i = -1 ∨ ∃ u : Nat, b = u ∧ gI s u ≤ gI s i) : BestI s fx (i + 1) b := by
  rcases h with ⟨rfl, h⟩ | ⟨u, rfl, hu, hf, h0, h⟩
  · refine Or.inl ⟨rfl, fun v hv hfv => ?_⟩
    rcases Nat.lt_or_ge v i with h1 | h1
    · exact h v h1 hfv
    · rw [show v = i by omega] at hfv ⊢
      rcases hc hfv with h2 | ⟨u, h2, _⟩
      · exact h2
      · omega
  · refine Or.inr ⟨u, rfl, by omega, hf, h0, fun v hv hfv => ?_⟩
    rcases Nat.lt_or_ge v i with h1 | h1
    · exact h v h1 hfv
    · rw [show v = i by omega] at hfv ⊢
      rcases hc hfv with h2 | ⟨u', h2, h3⟩
      · exact Or.inl h2
      · rw [show u = u' by omega]; exact Or.inr h3
theorem best_yes {s : List Int} {fx : List Bool} {i : Nat} {b : Int} (h : BestI s fx i b) (hf : gB fx i = false) (h0 : 0 ≤ gI s i) (hc : b < 0 ∨ ∃ u : Nat, b = u ∧ gI s i < gI s u) : BestI s fx (i + 1) i := by
  refine Or.inr ⟨i, rfl, by omega, hf, h0, fun v hv hfv => ?_⟩
  rcases Nat.lt_or_ge v i with h1 | h1
  · rcases h with ⟨rfl, h⟩ | ⟨u, rfl, hu, hfu, h0u, h⟩
    · exact Or.inl (h v h1 hfv)
    · rcases hc with hc | ⟨u', h2, h3⟩
      · omega
      · rw [show u' = u by omega] at h3
        rcases h v h1 hfv with h4 | h4
        · exact Or.inl h4
        · exact Or.inr (by omega)
  · rw [show v = i by omega]; exact Or.inr (Int.le_refl _)
/-- The bounds of the ticks. -/
def BdS (n : Nat) (s : List Int) (m : Int) : Prop := ∀ v, v < n → -1 ≤ gI s v ∧ gI s v ≤ m
theorem own_setO {W w : World} {gO gF n cO cF : Nat} {s : List Int} {fx : List Bool} (h : AS W gO gF n cO cF s fx w) {lo hi k : Nat} {e : TypeId} {A : Option Addr} {m c : Nat} {L : List Value} (ho : Own lo hi w e k A m c L) (hl : gO < lo) (i : Nat) (v : Int) : Own lo hi (w.setCell ⟨gO, i, none⟩ (.int .i64 v)) e k A m c L :=
  ho.grown (h.out.stored i (.int .i64 v)).2 fun g hg => by simp at hg; omega
theorem p_makeG {P : Program} {w : World} {ops : Array Oper} {S : World → Prop} {p : PlanO} {o : Oper} {a : Act} {Q : Exit → Act → World → Prop} (hw : Region.wanted o (yielded ops a.tmps) = true) (l c : Operand) (t : TypeId) (hop : o.op = Op.makeSlice t l c)
    (base : Nat) (e : TypeId) (z : Value) (size bytes : Nat) (h1 : P.underlying t = some (.slice e)) (hi : (P.info? e).map (fun i => (i.zero, i.size, i.bytes)) = some (some z, size, bytes))
    (n : Nat) (hl : a.eval l = .int .i64 n) (hc : a.eval c = .int .i64 n) (b2 : bytes * n ≤ 281474976710656) (b3 : n ≤ maxLen) (b4 : base ≤ w.heap.size)
    (hK : ∀ g w', w'.ownsRow base e size (.slice (some ⟨g, 0, none⟩) n n) n (madeCells z.cells (n * size)).toList → w.grownBy w' none → S w' ∧ wpPlan P ops Q S p (a.put o.dst (.slice (some ⟨g, 0, none⟩) n n)) w') :
    wpPlan P ops Q S (.one o p) a w :=
  p_make hw l c t hop base e z size bytes h1 hi n hl hc b2 b3 b4 fun w' h1 h2 => hK _ w' h1 h2
theorem share3 {T : Prop} {R G : Nat → Nat → World → Prop} (h1 : (∀ a b c, R a b c → G a b c) → T) (h2 : ∀ a b c, R a b c → G a b c) : T := h1 h2
theorem own_keep {w w' : World} {base e k v n L} (h : w.ownsRow base e k v n L) (hg : w.grownBy w' none) (hv : v.ownBlock.isSome) : w'.ownsRow base e k v n L := h.kept hg (Or.inr (by intro e1; rw [e1] at hv; simp at hv))
theorem box_at {t : Terr} {w w' : World} (hb : Below ((w.alloc (.cells #[.int .i64 t.W, .int .i64 t.H, .slice t.A t.n t.c] 30))).heap.size ((w.alloc (.cells #[.int .i64 t.W, .int .i64 t.H, .slice t.A t.n t.c] 30))) w') : w'.cell? ⟨w.heap.size, 0, none⟩ = some (.int .i64 t.W) ∧ w'.cell? ⟨w.heap.size, 1, none⟩ = some (.int .i64 t.H) ∧ w'.cell? ⟨w.heap.size, 2, none⟩ = some (.slice t.A t.n t.c) :=
  ⟨((bcell hb).1 _ _ (by simp)).trans (by simp [go_sem]), ((bcell hb).1 _ _ (by simp)).trans (by simp [go_sem]), ((bcell hb).1 _ _ (by simp)).trans (by simp [go_sem])⟩
theorem done_X {A : Option Addr} {n c : Nat} {ps : List Phase} {t v X : Int} {w : World} (hX : doneF (speedF ps) t v = X) (hS : Sl w 2 A n c (ps.flatMap Phase.row)) (hn : n ≤ 1048576) (hp : phasesB ps = true) (ht : 0 ≤ t ∧ t ≤ 6000) (hv : 0 ≤ v ∧ v ≤ 120) :
    Calls Try.prog 103 #[.slice A n c, .int .i64 t, .int .i64 v] w fun e w' => e = .returned (.int .i64 X) ∧ Below w.heap.size w w' := hX ▸ done_ A n c ps t v w hS hn hp ht hv
theorem work_X {t : Terr} {a b X : Int} {w : World} (hX : workF t a b = X) (hT : TOk w t) (hg : goodT t = true) (ha : 0 ≤ a ∧ a < t.n) (hb : 0 ≤ b ∧ b < t.n) :
    Calls Try.prog 104 #[.agg #[.int .i64 t.W, .int .i64 t.H, .slice t.A t.n t.c], .int .i64 a, .int .i64 b] w fun e w' => e = .returned (.int .i64 X) ∧ Below w.heap.size w w' := hX ▸ work_ t a b w hT hg ha hb
theorem mid_zero {n B t0 : Nat} {edge : Nat → Nat → Bool} {f : Nat → Nat → Nat → Nat} {S fx : Nat → Bool} {s : Nat → Nat} {u : Nat} {L : List Int} (h : Mid n B t0 edge f S s fx u (fun _ => false)) : Mid n B t0 edge f S s fx u (fun b => (L.take 0).any fun x => x == (b : Int)) := by
  simpa using h
theorem take_any {xs : List Int} {q c : Nat} (hx : xs[q]? = some (c : Int)) {b : Nat} (h : ((xs.take (q + 1)).any fun x => x == (b : Int)) = true) : ((xs.take q).any fun x => x == (b : Int)) = true ∨ b = c := by
  rw [List.take_add_one, hx, List.any_append, Bool.or_eq_true] at h
  rcases h with h | h
  · exact Or.inl h
  · right
    simp at h
    omega
set_option maxHeartbeats 8000000 in
set_option maxRecDepth 100000 in
theorem arrI (t : Terr) (A : Option Addr) (n c : Nat) (ps : List Phase) (B : Option Addr) (m d : Nat) (so : List Int) (st : Int) (w : World) (hT : TOk w t) (hg : goodT t = true) (hS : Sl w 2 A n c (ps.flatMap Phase.row)) (hn : n ≤ 1048576) (hp : phasesB ps = true) (hM : Sl w 1 B m d (ints so)) (hm : m ≤ 1048576) (hso : setT t so = true) (hst : 0 ≤ st ∧ st ≤ 1000) :
    Calls Try.prog 80 #[.agg #[.int .i64 t.W, .int .i64 t.H, .slice t.A t.n t.c], .slice A n c, .slice B m d, .int .i64 st] w fun e w' => ∃ A' c' s, e = .returned (.slice A' t.n c') ∧ ArrOk t ps so st s ∧ Own w.heap.size w'.heap.size w' 3 1 A' t.n c' (ints s) ∧ Below w.heap.size w w' := by
  obtain ⟨hW, -, -, hn1, hn25, -⟩ := goodT_bd hg
  have hsx := hid (setT_at hso)
  replace hm := hid hm
  replace hn := hid hn
  have hB2 := bel_refl (w.alloc (.cells #[.int .i64 t.W, .int .i64 t.H, .slice t.A t.n t.c] 30))
  have hnb : (t.n : Int) ≤ 25 := by omega
  go_enter Try.func80, Try.ntmps80
  go_wp2_with fail
  refine wp_region_plan (fun w' => Below ((w.alloc (.cells #[.int .i64 t.W, .int .i64 t.H, .slice t.A t.n t.c] 30))).heap.size ((w.alloc (.cells #[.int .i64 t.W, .int .i64 t.H, .slice t.A t.n t.c] 30))) w') (.free 0 (.free 1 (.free 2 (.free 4 (.free 5 (.free 6 (.two 3 (.free 8 (.one 7 (.free 9 .stop))) 7 (.one 3 (.free 8 (.free 9 .stop)))))))))) (by kernel_rfl) (by kernel_rfl) (bel_drew hB2) ?_
  simp only [Plan.ops, List.getElem?_cons_zero, List.getElem?_cons_succ, Option.getD_some]
  (iterate 6 (refine p_free rfl (by intro w' hw'; obtain ⟨hDc, hDf⟩ := bcell hw'; (go_simp; first | done | rfl)) ?_; (try simp only [Act.put, List.setIfInBounds_toArray, List.set_cons_zero, List.set_cons_succ])))
  apply share3 (R := fun gO gF Z => AS (w.alloc (.cells #[.int .i64 t.W, .int .i64 t.H, .slice t.A t.n t.c] 30)) gO gF t.n t.n t.n (List.replicate t.n 0) (List.replicate t.n false) Z)
  · intro K
    refine p_two ?_ ?_
    · refine p_makeG rfl (.tmp 22) (.tmp 22) 22 rfl ((w.alloc (.cells #[.int .i64 t.W, .int .i64 t.H, .slice t.A t.n t.c] 30))).heap.size 3 (.int .i64 0) 1 8 Try.underlying22 info_int' t.n rfl rfl (by omega) (by simp [maxLen]; omega) (by simp) ?_
      intro gO w1 ho1 hg1
      have hb1 := (bel_drew hB2).grown hg1 (Nat.le_refl _) (by simp)
      refine ⟨hb1, ?_⟩
      (try simp only [Act.put, List.setIfInBounds_toArray, List.set_cons_zero, List.set_cons_succ])
      (iterate 1 (refine p_free rfl (by intro w' hw'; obtain ⟨hDc, hDf⟩ := bcell hw'; (go_simp; first | done | rfl)) ?_; (try simp only [Act.put, List.setIfInBounds_toArray, List.set_cons_zero, List.set_cons_succ])))
      refine p_makeG rfl (.tmp 26) (.tmp 26) 98 rfl ((w.alloc (.cells #[.int .i64 t.W, .int .i64 t.H, .slice t.A t.n t.c] 30))).heap.size 4 (.bool false) 1 1 Try.underlying98 info_bool t.n rfl rfl (by omega) (by simp [maxLen]; omega) hb1.size ?_
      intro gF w2 hf2 hg2
      have hb2 := hb1.grown hg2 hb1.size (by simp)
      refine ⟨hb2, ?_⟩
      (try simp only [Act.put, List.setIfInBounds_toArray, List.set_cons_zero, List.set_cons_succ])
      (iterate 1 (refine p_free rfl (by intro w' hw'; obtain ⟨hDc, hDf⟩ := bcell hw'; (go_simp; first | done | rfl)) ?_; (try simp only [Act.put, List.setIfInBounds_toArray, List.set_cons_zero, List.set_cons_succ])))
      refine p_stop ?_
      (try simp only [Act.put, List.setIfInBounds_toArray, List.set_cons_zero, List.set_cons_succ])
      have ho2 := own_keep ho1 hg2 rfl
      rw [made_int] at ho2
      rw [made_bool] at hf2
      exact K gO gF w2 ⟨ho2, hf2, hb2⟩
    · refine p_makeG rfl (.tmp 26) (.tmp 26) 98 rfl ((w.alloc (.cells #[.int .i64 t.W, .int .i64 t.H, .slice t.A t.n t.c] 30))).heap.size 4 (.bool false) 1 1 Try.underlying98 info_bool t.n rfl rfl (by omega) (by simp [maxLen]; omega) (by simp) ?_
      intro gF w1 ho1 hg1
      have hb1 := (bel_drew hB2).grown hg1 (Nat.le_refl _) (by simp)
      refine ⟨hb1, ?_⟩
      (try simp only [Act.put, List.setIfInBounds_toArray, List.set_cons_zero, List.set_cons_succ])
      refine p_makeG rfl (.tmp 22) (.tmp 22) 22 rfl ((w.alloc (.cells #[.int .i64 t.W, .int .i64 t.H, .slice t.A t.n t.c] 30))).heap.size 3 (.int .i64 0) 1 8 Try.underlying22 info_int' t.n rfl rfl (by omega) (by simp [maxLen]; omega) hb1.size ?_
      intro gO w2 hf2 hg2
      have hb2 := hb1.grown hg2 hb1.size (by simp)
      refine ⟨hb2, ?_⟩
      (try simp only [Act.put, List.setIfInBounds_toArray, List.set_cons_zero, List.set_cons_succ])
      (iterate 2 (refine p_free rfl (by intro w' hw'; obtain ⟨hDc, hDf⟩ := bcell hw'; (go_simp; first | done | rfl)) ?_; (try simp only [Act.put, List.setIfInBounds_toArray, List.set_cons_zero, List.set_cons_succ])))
      refine p_stop ?_
      (try simp only [Act.put, List.setIfInBounds_toArray, List.set_cons_zero, List.set_cons_succ])
      have ho2 := own_keep ho1 hg2 rfl
      rw [made_bool] at ho2
      rw [made_int] at hf2
      exact K gO gF w2 ⟨hf2, ho2, hb2⟩
  intro gO gF Z hAS
  clear hB2
  go_wp2_with fail
  go_loopw [30] (fun v wr => ∃ p : Nat, p ≤ t.n ∧ v = .int .i64 p ∧ AS ((w.alloc (.cells #[.int .i64 t.W, .int .i64 t.H, .slice t.A t.n t.c] 30))) gO gF t.n t.n t.n ((List.replicate t.n (-1)).take p ++ (List.replicate t.n 0).drop p) (List.replicate t.n false) wr) (fun v _ => t.n - (intOf v).toNat)
  case atStart => exact ⟨0, by omega, rfl, by simpa using hAS⟩
  case round =>
    clear hAS
    obtain ⟨p, hp', rfl, hAS⟩ := hrel
    by_cases hlt : p < t.n
    · have hi0 : (0 : Int) ≤ (p : Int) := by omega
      have hi1 : (p : Int) < (t.n : Int) := by omega
      have hfz := own_fz hAS.out p
      obtain ⟨c0, -⟩ := hAS.at_ hlt
      go_wp2_with fail
      go_roundw
      case rel => exact ⟨p + 1, by omega, by go_num, by rw [← mix_one (v := -1) (by simp) (by simp [hlt])]; exact hAS.setO p (-1)⟩
      case measure => simp [intOf]; omega
    · have hi1 : ¬ (p : Int) < (t.n : Int) := by omega
      have e : p = t.n := by omega
      rw [e, List.take_of_length_le (by simp), List.drop_of_length_le (by simp), List.append_nil] at hAS
      have hTz := (hT.bel (bel_alloc (o := .cells #[.int .i64 t.W, .int .i64 t.H, .slice t.A t.n t.c] 30) (bel_refl w)))
      have hMz := (hM.bel (bel_alloc (o := .cells #[.int .i64 t.W, .int .i64 t.H, .slice t.A t.n t.c] 30) (bel_refl w)))
      have hgl := (hAS.out.lt gO rfl).2
      obtain ⟨k0, k1, k2⟩ := box_at hAS.bel
      go_wp2_with (go_at_call 100; refine (filterBurn t B m d so _ (hTz.bel hAS.bel) hg (hMz.bel hAS.bel) hm.out hsx.out).mono ?_; rintro _ w1 ⟨A1, k, c1, rfl, hO, hB1⟩)
      clear hi1 hlt hp' e
      replace hAS := hAS.keep hB1
      clear k0 k1 k2
      have hkm : k ≤ 1048576 := by
        have h1 := hO.own.1
        have h2 := List.length_filter_le (burnsB t) so
        have h3 := hM.int_len
        rw [ints_len] at h1
        have := hm.out
        omega
      obtain ⟨F, hF⟩ : ∃ F, so.filter (burnsB t) = F := ⟨_, rfl⟩
      have hFx : Hid (∀ x ∈ F, 0 ≤ x ∧ x < t.n) := by
        show ∀ x ∈ F, _
        rw [← hF]
        exact fun x hx => hsx.out x ((List.mem_filter.1 hx).1)
      have hFa := hid (fun v => hF ▸ any_filt (t := t) (so := so) (v := v))
      rw [hF] at hO
      clear hF
      obtain ⟨L0, hL0⟩ : ∃ L0, wr.heap.size = L0 := ⟨_, rfl⟩
      obtain ⟨H0, hH0⟩ : ∃ H0, w1.heap.size = H0 := ⟨_, rfl⟩
      rw [hL0] at hgl
      rw [hL0, hH0] at hO
      clear hL0 hH0 hB1
      go_loopw [42] (fun v wr => ∃ q : Nat, q ≤ k ∧ v = .int .i64 q ∧ ∃ s, AS ((w.alloc (.cells #[.int .i64 t.W, .int .i64 t.H, .slice t.A t.n t.c] 30))) gO gF t.n t.n t.n s (List.replicate t.n false) wr ∧ Hid (∀ v, v < t.n → gI s v = if (F.take q).any (fun x => x == (v : Int)) then st else -1) ∧ Own L0 H0 wr 3 1 A1 k c1 (ints F)) (fun v _ => k - (intOf v).toNat)
      case atStart => exact ⟨0, by omega, rfl, _, hAS, fun v hv => by simp [gI, hv], hO⟩
      case round =>
        clear hAS hO
        obtain ⟨q, hq', rfl, s, hAS, hs, hO⟩ := hrel
        have hFl : F.length = k := by have := hO.own.1; rw [ints_len] at this; omega
        by_cases hlt : q < k
        · obtain ⟨x, hx⟩ : ∃ x, F[q]? = some x := get_of_lt (by omega)
          obtain ⟨b, o, rfl, hb, c0⟩ := hO.sl.int_at hx
          have hxb := hFx.out x (List.mem_of_getElem? hx)
          obtain ⟨xn, rfl⟩ := Int.eq_ofNat_of_zero_le hxb.1
          have hX := hid hx
          clear hx
          have hi0 : (0 : Int) ≤ (q : Int) := by omega
          have hi1 : (q : Int) < (k : Int) := by omega
          have hx0 := hxb.1
          have hx1 := hxb.2
          have hfz := own_fz hAS.out xn
          obtain ⟨c1', -⟩ := hAS.at_ (v := xn) (by omega)
          clear hxb
          go_wp2_with fail
          go_roundw
          case rel => exact ⟨q + 1, by omega, by go_num, _, hAS.setO xn st, (fun v hv => by
            rw [gI_set (by rw [hAS.lenO]; omega), List.take_add_one, hX.out, List.any_append, hs.out v hv]
            by_cases e : v = xn
            · subst e; simp
            · have e2 : ¬ (xn : Int) = (v : Int) := by omega
              simp [e, e2]), own_setO hAS hO hgl xn st⟩
          case measure => simp [intOf]; omega
        · have hi1 : ¬ (q : Int) < (k : Int) := by omega
          have e : q = k := by omega
          have hs0 : Hid (∀ v, v < t.n → gI s v = if srcF t so v then st else -1) := fun v hv => by
            rw [hs.out v hv, List.take_of_length_le (by omega), hFa.out v]
          have hN0 : Hid (Near t.n 100000 st.toNat (edgeF t) (costF t ps) (srcF t so) (stF s) (gB (List.replicate t.n false))) :=
            near_congr (near_start (by omega)) (st_start hst hs0.out) (fun v _ => gB_rep)
          have hbd0 : Hid (BdS t.n s (st + 120 * (cntB (List.replicate t.n false) : Int))) := fun v hv => by
            rw [hs0.out v hv]
            split <;> omega
          clear hs hs0 hO hFa hFx
          go_wp2_with fail
          clear hi1 e hq' hlt
          go_loopw [14] (fun _ wr => ∃ s fx, AS ((w.alloc (.cells #[.int .i64 t.W, .int .i64 t.H, .slice t.A t.n t.c] 30))) gO gF t.n t.n t.n s fx wr ∧ Hid (Near t.n 100000 st.toNat (edgeF t) (costF t ps) (srcF t so) (stF s) (gB fx)) ∧ Hid (BdS t.n s (st + 120 * (cntB fx : Int)))) (fun _ wr => offW gF t.n wr)
          case atStart => exact ⟨s, _, hAS, hN0, hbd0⟩
          case round =>
            clear hAS hN0 hbd0 s
            obtain ⟨s, fx, hAS, hN, hbd⟩ := hrel
            go_wp2_with fail
            obtain ⟨wo, rfl⟩ : ∃ wo : World, wo = wr := ⟨_, rfl⟩
            go_loopw [14, 53] (fun b v wr => ∃ (i : Nat) (bi : Int), i ≤ t.n ∧ v = .int .i64 i ∧ b = .int .i64 bi ∧ Hid (BestI s fx i bi) ∧ wo = wr) (fun _ v _ => t.n - (intOf v).toNat)
            case atStart => exact ⟨0, -1, by omega, rfl, rfl, Or.inl ⟨rfl, fun v hv => absurd hv (by omega)⟩, rfl⟩
            case round =>
              obtain ⟨i, bi, hi', rfl, rfl, hbest, rfl⟩ := hrel
              by_cases hlt : i < t.n
              · have hi0 : (0 : Int) ≤ (i : Int) := by omega
                have hi1 : (i : Int) < (t.n : Int) := by omega
                obtain ⟨c0, c1⟩ := hAS.at_ hlt
                have hbi := hbd.out i hlt
                obtain ⟨x, hx⟩ : ∃ x, gI s i = x := ⟨_, rfl⟩
                rcases hf : gB fx i with _ | _
                · rw [hx] at c0 hbi
                  rw [hf] at c1
                  replace hx := hid hx
                  by_cases hx1 : x = -1
                  · subst hx1
                    go_wp2_with fail
                    go_roundw
                    case rel => exact ⟨i + 1, _, by omega, by go_num, rfl, best_no hbest.out (fun _ => Or.inl hx.out), by simp⟩
                    case measure => simp [intOf]; omega
                  · by_cases hb0 : bi < 0
                    · go_wp2_with fail
                      go_roundw
                      case rel => exact ⟨i + 1, _, by omega, by go_num, rfl, best_yes hbest.out hf (by rw [hx.out]; omega) (Or.inl hb0), by simp⟩
                      case measure => simp [intOf]; omega
                    · obtain ⟨u, rfl, hu, hfu, h0u⟩ : ∃ u : Nat, bi = u ∧ u < i ∧ gB fx u = false ∧ 0 ≤ gI s u := by
                        rcases hbest.out with ⟨h1, _⟩ | ⟨u, h1, h2, h3, h4, _⟩
                        · omega
                        · exact ⟨u, h1, h2, h3, h4⟩
                      have hu0 : (0 : Int) ≤ (u : Int) := by omega
                      have hu1 : (u : Int) < (t.n : Int) := by omega
                      obtain ⟨d0, -⟩ := hAS.at_ (v := u) (by omega)
                      obtain ⟨y, hy⟩ : ∃ y, gI s u = y := ⟨_, rfl⟩
                      rw [hy] at d0
                      replace hy := hid hy
                      by_cases hxy : x < y
                      · go_wp2_with fail
                        go_roundw
                        case rel => exact ⟨i + 1, _, by omega, by go_num, rfl, best_yes hbest.out hf (by rw [hx.out]; omega) (Or.inr ⟨u, rfl, by rw [hx.out, hy.out]; exact hxy⟩), by simp⟩
                        case measure => simp [intOf]; omega
                      · go_wp2_with fail
                        go_roundw
                        case rel => exact ⟨i + 1, _, by omega, by go_num, rfl, best_no hbest.out (fun _ => Or.inr ⟨u, rfl, by rw [hx.out, hy.out]; omega⟩), by simp⟩
                        case measure => simp [intOf]; omega
                · rw [hf] at c1
                  go_wp2_with fail
                  go_roundw
                  case rel => exact ⟨i + 1, _, by omega, by go_num, rfl, best_no hbest.out (fun h => by rw [hf] at h; cases h), by simp⟩
                  case measure => simp [intOf]; omega
              · have hi1 : ¬ (i : Int) < (t.n : Int) := by omega
                have e : i = t.n := by omega
                subst e
                by_cases hb0 : bi < 0
                · go_wp2_with fail
                  go_ret
                  have hbn : ∀ v, v < t.n → gB fx v = false → gI s v = -1 := by
                    rcases hbest.out with ⟨_, h1⟩ | ⟨u, h1, _⟩
                    · exact h1
                    · omega
                  have hc9 := cntB_le fx
                  rw [hAS.lenF] at hc9
                  refine ⟨_, _, rfl, s, ⟨hAS.lenO, fun v hv => ?_, hN.out.cert fun v hv h1 => ?_⟩, Own.mk_ (own_low hAS.out (by simp)), (bel_alloc (bel_refl w)).trans (hAS.bel.mono (by simp))⟩
                  · have := hbd.out v hv
                    omega
                  · rcases hfv : gB fx v with _ | _
                    · rw [stF, hbn v hv hfv] at h1
                      simp [valT] at h1
                    · rfl
                · obtain ⟨u, rfl, hu, hfu, h0u, hmin⟩ : ∃ u : Nat, bi = u ∧ u < t.n ∧ gB fx u = false ∧ 0 ≤ gI s u ∧ Hid (∀ v, v < t.n → gB fx v = false → gI s v = -1 ∨ gI s u ≤ gI s v) := by
                    rcases hbest.out with ⟨h1, _⟩ | h1
                    · omega
                    · exact h1
                  have hu0 : (0 : Int) ≤ (u : Int) := by omega
                  have hu1 : (u : Int) < (t.n : Int) := by omega
                  have hbu := hbd.out u hu
                  have hcn := cntB_set (fx := fx) (u := u) (by rw [hAS.lenF]; exact hu) hfu
                  have hcl := cntB_le (fx.set u true)
                  rw [List.length_set, hAS.lenF] at hcl
                  have hM0 : Hid (Mid t.n 100000 st.toNat (edgeF t) (costF t ps) (srcF t so) (stF s) (gB (fx.set u true)) u (fun b => ((nearL t u).take 0).any fun x => x == (b : Int))) := by
                    have h1 := near_pick (by rw [hAS.lenF]) hN.out hu hfu (by unfold stF valT; split <;> omega) (fun v hv hfv => by
                      have hbv := hbd.out v hv
                      unfold stF valT
                      rcases hmin.out v hv hfv with h2 | h2
                      · split <;> split <;> omega
                      · split <;> split <;> omega)
                    exact mid_zero h1
                  have hof := off_eq hAS
                  have hfz := own_fz hAS.fix u
                  obtain ⟨-, c1⟩ := hAS.at_ hu
                  have hAS1 := hAS.setF u true
                  have hgu : Hid (gB (fx.set u true) u = true) := by
                    show _ = _
                    rw [gB_set (by rw [hAS.lenF]; exact hu), if_pos rfl]
                  have hmb : Hid (st + 120 * (cntB fx : Int) + 120 = st + 120 * (cntB (fx.set u true) : Int)) := by show _ = _; omega
                  have hmt : Hid (st + 120 * (cntB fx : Int) ≤ 4000) := by show _ ≤ _; omega
                  have hoff : Hid (t.n - cntB (fx.set u true) < offW gF t.n wo) := by show _ < _; omega
                  have hbd1 : Hid (BdS t.n s (st + 120 * (cntB (fx.set u true) : Int))) := fun v hv => by
                    have := hbd.out v hv
                    have := hmb.out
                    omega
                  have hgl := (hAS.out.lt gO rfl).2
                  obtain ⟨k0, k1, k2⟩ := box_at hAS1.bel
                  go_wp2_with (go_at_call 102; refine (neighbors t u _ hg ⟨hu0, hu1⟩).mono ?_; rintro _ w1 ⟨A2, k3, c2, rfl, hO, hB1⟩)
                  replace hAS := hAS1.keep hB1
                  clear k0 k1 k2 hAS1 hfz
                  obtain ⟨L, hL⟩ : ∃ L, nearL t u = L := ⟨_, rfl⟩
                  have hLm : Hid (∀ x ∈ L, ∃ i : Nat, x = i ∧ i < t.n ∧ nearB t u i = true) := by
                    show ∀ x ∈ L, _
                    rw [← hL]
                    exact fun x hx => cellsL_mem.1 hx
                  have hLa : Hid (∀ b, b < t.n → edgeF t u b = true → (L.any fun x => x == (b : Int)) = true) := by
                    show ∀ b, _
                    rw [← hL]
                    intro b hb he
                    simp only [edgeF, Bool.and_eq_true] at he
                    exact List.any_eq_true.2 ⟨b, cellsL_mem.2 ⟨b, rfl, hb, he.1⟩, by simp⟩
                  have hLl : L.length ≤ 25 := by
                    rw [← hL]
                    have := cellsL_len t.n (nearB t u)
                    unfold nearL
                    omega
                  rw [hL] at hO hM0
                  clear hL
                  obtain ⟨fx1, hfx1⟩ : ∃ y, fx.set u true = y := ⟨_, rfl⟩
                  rw [hfx1] at hAS hM0 hgu hmb hoff hbd1
                  clear hfx1 hbest hcn hcl hof hmin hN hbd
                  obtain ⟨L0, hL0⟩ : ∃ L0, (wo.setCell ⟨gF, u, none⟩ (.bool true)).heap.size = L0 := ⟨_, rfl⟩
                  obtain ⟨H0, hH0⟩ : ∃ H0, w1.heap.size = H0 := ⟨_, rfl⟩
                  have hgl0 : gO < L0 := by rw [← hL0]; simpa [World.setCell] using hgl
                  rw [hL0, hH0] at hO
                  clear hL0 hH0 hB1 hgl
                  go_loopw [91] (fun v wr => ∃ q : Nat, q ≤ k3 ∧ v = .int .i64 q ∧ ∃ s, AS ((w.alloc (.cells #[.int .i64 t.W, .int .i64 t.H, .slice t.A t.n t.c] 30))) gO gF t.n t.n t.n s fx1 wr ∧ Hid (Mid t.n 100000 st.toNat (edgeF t) (costF t ps) (srcF t so) (stF s) (gB fx1) u (fun b => (L.take q).any fun x => x == (b : Int))) ∧ Hid (BdS t.n s (st + 120 * (cntB fx1 : Int))) ∧ Hid (0 ≤ gI s u ∧ gI s u ≤ st + 120 * (cntB fx : Int)) ∧ Own L0 H0 wr 3 1 A2 k3 c2 (ints L)) (fun v _ => k3 - (intOf v).toNat)
                  case atStart => exact ⟨0, by omega, rfl, s, hAS, hM0, hbd1, ⟨h0u, hbu.2⟩, hO⟩
                  case round =>
                    clear hAS hM0 hbd1 h0u hbu hO
                    obtain ⟨q, hq', rfl, s, hAS, hM, hbd, hy0, hO⟩ := hrel
                    have hlk : L.length = k3 := by have := hO.own.1; rw [ints_len] at this; omega
                    by_cases hlt : q < k3
                    · obtain ⟨x, hx⟩ : ∃ x, L[q]? = some x := get_of_lt (by omega)
                      obtain ⟨b, o, rfl, hb, c0⟩ := hO.sl.int_at hx
                      obtain ⟨cn, rfl, hcn, hnr⟩ := hLm.out x (List.mem_of_getElem? hx)
                      have hP := hid (fun b => take_any hx (b := b))
                      clear hx
                      have hi0 : (0 : Int) ≤ (q : Int) := by omega
                      have hi1 : (q : Int) < (k3 : Int) := by omega
                      have hc0 : (0 : Int) ≤ (cn : Int) := by omega
                      have hc1 : (cn : Int) < (t.n : Int) := by omega
                      obtain ⟨k0, k1, k2⟩ := box_at hAS.bel
                      rcases hbn : burnsB t (cn : Int) with _ | _
                      · go_wp2_with (go_at_call 101; refine (burns t cn _ (hTz.bel hAS.bel) hg ⟨hc0, hc1⟩).mono ?_; rw [hbn]; rintro _ w2 ⟨rfl, hB1⟩)
                        go_roundw
                        case rel => exact ⟨q + 1, by omega, by go_num, s, hAS.keep hB1, hM.out.skip (edges_ok hg hp) hu (fun b hb => hP.out b hb) (Or.inl (by simp [edgeF, hbn])), hbd, hy0, hO.bel hB1⟩
                        case measure => simp [intOf]; omega
                      · rcases hfc : gB fx1 cn with _ | _
                        · have hbc := hbd.out cn hcn
                          obtain ⟨y, hy⟩ : ∃ y, gI s u = y := ⟨_, rfl⟩
                          obtain ⟨z, hz⟩ : ∃ z, gI s cn = z := ⟨_, rfl⟩
                          obtain ⟨Wk, hWk⟩ : ∃ Wk, workF t (u : Int) (cn : Int) = Wk := ⟨_, rfl⟩
                          obtain ⟨X, hX⟩ : ∃ X, doneF (speedF ps) y Wk = X := ⟨_, rfl⟩
                          have hy1 := hy0.out
                          rw [hy] at hy1
                          rw [hz] at hbc
                          have hwb := work_bd hg (u : Int) (cn : Int)
                          rw [hWk] at hwb
                          have hXb := cost_bd hg hp hy1.1 (u : Int) (cn : Int)
                          rw [hWk, hX] at hXb
                          have hmt2 := hmt.out
                          have hy6 : y ≤ 6000 := by omega
                          have hne : ¬ u = cn := fun e => by have := hgu.out; rw [e, hfc] at this; cases this
                          have hcs : costF t ps u cn (stF s u) = X.toNat := by
                            have e : (stF s u : Int) = y := by
                              unfold stF valT
                              rw [hy, if_neg (by omega)]
                              omega
                            unfold costF
                            rw [e, hWk, hX]
                          have hR : Hid (AS ((w.alloc (.cells #[.int .i64 t.W, .int .i64 t.H, .slice t.A t.n t.c] 30))) gO gF t.n t.n t.n (relD s cn X) fx1 wr → True) := fun _ => trivial
                          have hM2 : Hid (Mid t.n 100000 st.toNat (edgeF t) (costF t ps) (srcF t so) (stF (relD s cn X)) (gB fx1) u (fun b => (L.take (q + 1)).any fun x => x == (b : Int))) := by
                            show Mid _ _ _ _ _ _ _ _ _ _
                            rw [relD_st (by rw [hAS.lenO]; exact hcn) (by omega) (by rw [hz]; exact hbc.1), ← hcs]
                            exact hM.out.relax (edges_ok hg hp) hu hgu.out hcn (fun b hb => hP.out b hb) (by simp [edgeF, hbn, hnr]) hfc
                          have hbd2 : Hid (BdS t.n (relD s cn X) (st + 120 * (cntB fx1 : Int))) := fun v hv => by
                            rw [relD_get (by rw [hAS.lenO]; exact hcn)]
                            have h1 := hbd.out v hv
                            have h2 := hmb.out
                            split
                            · omega
                            · exact h1
                          have hy2 : Hid (0 ≤ gI (relD s cn X) u ∧ gI (relD s cn X) u ≤ st + 120 * (cntB fx : Int)) := by
                            show 0 ≤ gI (relD s cn X) u ∧ _
                            rw [relD_get (by rw [hAS.lenO]; exact hcn), if_neg (fun h => hne h.1)]
                            exact hy0.out
                          have hyes : Hid (z = -1 ∨ X < z → relD s cn X = s.set cn X) := fun h => by
                            unfold relD; rw [hz, if_pos h]
                          have hno : Hid (¬ (z = -1 ∨ X < z) → relD s cn X = s) := fun h => by
                            unfold relD; rw [hz, if_neg h]
                          clear hR hcs hmt2
                          replace hX := hid hX
                          replace hWk := hid hWk
                          replace hy := hid hy
                          replace hz := hid hz
                          go_wp2_with (go_at_call 101; refine (burns t cn _ (hTz.bel hAS.bel) hg ⟨hc0, hc1⟩).mono ?_; rw [hbn]; rintro _ w2 ⟨rfl, hB1⟩; replace hAS := hAS.keep hB1; replace hO := hO.bel hB1; have d1 := (hAS.at_ hcn).2; rw [hfc] at d1; obtain ⟨e0, -⟩ := hAS.at_ hu; rw [hy.out] at e0; have hgl2 := (hAS.out.lt gO rfl).2; have hB2 := bel_refl w2; clear k0 k1 k2; obtain ⟨k0, k1, k2⟩ := box_at hAS.bel; clear c0)
                          have hgw : w.heap.size < w2.heap.size := by have := hAS.bel.size; simp at this; omega
                          have hTw := hTz.bel hAS.bel
                          have hSw := (hS.bel (bel_alloc (o := .cells #[.int .i64 t.W, .int .i64 t.H, .slice t.A t.n t.c] 30) (bel_refl w))).bel hAS.bel
                          (refine wp_region_bel (by kernel_rfl) (by kernel_rfl) ?_; have hD := bel_cells hB2; (repeat (go_big_quiet_step (((first | (go_at_call 103; exact calls_bel (done_X hX.out (hSw.bel (Bel.prop _)) hn.out hp ⟨hy1.1, hy6⟩ hwb)) | (go_at_call 104; exact calls_bel (work_X hWk.out (hTw.bel (Bel.prop _)) hg ⟨hu0, hu1⟩ ⟨hc0, hc1⟩))))))); refine wpQuiet_nil ?_; intro w1 hB1; replace hB2 := bel_trans hB2 hB1; obtain ⟨hC1, hF1⟩ := bcell hB2; clear hD; replace hB1 := hB1)
                          replace hAS := hAS.keep hB2
                          replace hO := hO.bel hB2
                          obtain ⟨f0, -⟩ := hAS.at_ hcn
                          rw [hz.out] at f0
                          have hfz := own_fz hAS.out cn
                          clear hC1 hF1 d1 e0 hTw hSw hB1 hB2
                          by_cases hz1 : z = -1
                          · have hr := hid (hyes.out (Or.inl hz1))
                            rw [hr.out] at hM2 hbd2 hy2
                            subst hz1
                            go_wp2_with fail
                            go_roundw
                            case rel => exact ⟨q + 1, by omega, by go_num, _, hAS.setO cn X, hM2, hbd2, hy2, own_setO hAS hO hgl0 cn X⟩
                            case measure => simp [intOf]; omega
                          · by_cases hxz : X < z
                            · have hr := hid (hyes.out (Or.inr hxz))
                              rw [hr.out] at hM2 hbd2 hy2
                              go_wp2_with fail
                              go_roundw
                              case rel => exact ⟨q + 1, by omega, by go_num, _, hAS.setO cn X, hM2, hbd2, hy2, own_setO hAS hO hgl0 cn X⟩
                              case measure => simp [intOf]; omega
                            · have hr := hid (hno.out (by omega))
                              rw [hr.out] at hM2 hbd2 hy2
                              go_wp2_with fail
                              go_roundw
                              case rel => exact ⟨q + 1, by omega, by go_num, _, hAS, hM2, hbd2, hy2, hO⟩
                              case measure => simp [intOf]; omega
                        · go_wp2_with (go_at_call 101; refine (burns t cn _ (hTz.bel hAS.bel) hg ⟨hc0, hc1⟩).mono ?_; rw [hbn]; rintro _ w2 ⟨rfl, hB1⟩; have d1 := ((hAS.keep hB1).at_ hcn).2; rw [hfc] at d1)
                          go_roundw
                          case rel => exact ⟨q + 1, by omega, by go_num, s, hAS.keep hB1, hM.out.skip (edges_ok hg hp) hu (fun b hb => hP.out b hb) (Or.inr hfc), hbd, hy0, hO.bel hB1⟩
                          case measure => simp [intOf]; omega
                    · have hi1 : ¬ (q : Int) < (k3 : Int) := by omega
                      go_wp2_with fail
                      go_roundw
                      case rel => exact ⟨s, fx1, hAS, hM.out.done (fun b hb he => by rw [List.take_of_length_le (by omega)]; exact hLa.out b hb he), hbd⟩
                      case measure => rw [off_eq hAS]; exact hoff.out
end Go.Proofs.Ytdfjfopbhlbmkaa

/-
  The earliest and the latest arrivals: of the program, walked; and that a cell is reached in all scenarios or in none.
-/
import Derived.Test.YtdfjfopbhlbmkaaPossibleS
namespace Go.Proofs.Ytdfjfopbhlbmkaa
open Go.RowKit

/-! ### plain -/
theorem reach_up {t : Terr} {ps ps' : List Phase} {so : List Int} {st : Int} {s s' : List Int} (hg : goodT t = true) (hp : phasesB ps = true) (hp' : phasesB ps' = true) (_hst : 0 ≤ st ∧ st ≤ 1000) (h : ArrOk t ps so st s) (h' : ArrOk t ps' so st s') :
    ∀ (k v : Nat), v < t.n → stF s v ≤ k → stF s v < 100000 → stF s' v < 100000 := by
  intro k
  induction k with
  | zero =>
    intro v hv hk hb
    rcases h.cert.why v hv hb with ⟨h1, h2⟩ | ⟨a, ha, h1, _, h2⟩
    · have := h'.cert.from_ v hv h1; omega
    · have := (edges_ok hg hp).more a v (stF s a) ha hv h1; omega
  | succ k ih =>
    intro v hv hk hb
    rcases h.cert.why v hv hb with ⟨h1, h2⟩ | ⟨a, ha, h1, hab, h2⟩
    · have := h'.cert.from_ v hv h1; omega
    · have hm := (edges_ok hg hp).more a v (stF s a) ha hv h1
      have h3 := ih a ha (by omega) hab
      have h4 := h'.cert.fix a v ha hv h1 h3
      have h5 : stF s' a ≤ 9999 := by
        have h7 := h'.bd a ha
        unfold stF valT at h3 ⊢
        by_cases h8 : gI s' a < 0
        · rw [if_pos h8] at h3; omega
        · rw [if_neg h8]; omega
      have h6 := cost_bd hg hp' (x := (stF s' a : Int)) (by omega) (a : Int) (v : Int)
      unfold costF at h4
      omega
theorem reach_same {t : Terr} {ps ps' : List Phase} {so : List Int} {st : Int} {s s' : List Int} (hg : goodT t = true) (hp : phasesB ps = true) (hp' : phasesB ps' = true) (hst : 0 ≤ st ∧ st ≤ 1000) (h : ArrOk t ps so st s) (h' : ArrOk t ps' so st s') {v : Nat} (hv : v < t.n) : gI s v = -1 ↔ gI s' v = -1 := by
  have h1 := reach_up hg hp hp' hst h h' _ v hv (Nat.le_refl _)
  have h2 := reach_up hg hp' hp hst h' h _ v hv (Nat.le_refl _)
  have h3 := h.bd v hv
  have h4 := h'.bd v hv
  unfold stF valT at h1 h2
  constructor
  · intro e
    rw [e] at h2
    by_cases h5 : gI s' v < 0
    · omega
    · rw [if_neg h5] at h2
      simp at h2
      omega
  · intro e
    rw [e] at h1
    by_cases h5 : gI s v < 0
    · omega
    · rw [if_neg h5] at h1
      simp at h1
      omega
/-- Is 'a' better than 'b': later, or earlier? -/
def betB (l : Bool) (a b : Int) : Bool := if l then decide (b < a) else decide (a < b)
def stepV (l : Bool) (o a : Int) : Int := if a ≠ -1 ∧ (o = -1 ∨ betB l a o = true) then a else o
/-- The extremes after the first i scenarios. -/
noncomputable def extI (l : Bool) (t : Terr) (so : List Int) (st : Int) (xs : List Scen) : Nat → List Int
  | 0 => List.replicate t.n (-1)
  | i + 1 => match xs[i]? with
    | some x => (List.range t.n).map fun v => stepV l (gI (extI l t so st xs i) v) (gI (arrF t x.ps so st) v)
    | none => extI l t so st xs i
theorem extI_next {l : Bool} {t : Terr} {so : List Int} {st : Int} {xs : List Scen} {i : Nat} {x : Scen} (hx : xs[i]? = some x) : extI l t so st xs (i + 1) = (List.range t.n).map fun v => stepV l (gI (extI l t so st xs i) v) (gI (arrF t x.ps so st) v) := by
  rw [extI, hx]
theorem extI_len (l : Bool) (t : Terr) (so : List Int) (st : Int) (xs : List Scen) : ∀ i, (extI l t so st xs i).length = t.n
  | 0 => by simp [extI]
  | i + 1 => by
    rw [extI]
    split
    · simp
    · exact extI_len l t so st xs i
theorem gI_map {f : Nat → Int} {n v : Nat} (hv : v < n) : gI ((List.range n).map f) v = f v := gI_get (by rw [List.getElem?_map, List.getElem?_range hv]; rfl)
theorem gI_rep {n v : Nat} : gI (List.replicate n (-1)) v = -1 := by
  unfold gI
  rw [List.getD_eq_getElem?_getD, List.getElem?_replicate]
  split <;> rfl
theorem step_first (l : Bool) (a : Int) : stepV l (-1) a = a := by
  unfold stepV
  by_cases h : a = -1
  · simp [h]
  · simp [h]
theorem step_min {a o : Int} (h : a = -1 ↔ o = -1) : stepV false o a = min o a := by
  unfold stepV betB
  by_cases e : a = -1
  · have := h.1 e; simp [e, this]
  · have e2 : ¬ o = -1 := fun h2 => e (h.2 h2)
    by_cases h3 : a < o
    · rw [if_pos ⟨e, Or.inr (by simpa using h3)⟩]; omega
    · rw [if_neg (by simp [e, e2]; omega)]; omega
theorem step_max {a o : Int} (h : a = -1 ↔ o = -1) : stepV true o a = max o a := by
  unfold stepV betB
  by_cases e : a = -1
  · have := h.1 e; simp [e, this]
  · have e2 : ¬ o = -1 := fun h2 => e (h.2 h2)
    by_cases h3 : o < a
    · rw [if_pos ⟨e, Or.inr (by simpa using h3)⟩]; omega
    · rw [if_neg (by simp [e, e2]; omega)]; omega
theorem mix_get {F Z : List Int} {p : Nat} (hl : F.length = Z.length) (hp : p < Z.length) : gI (F.take p ++ Z.drop p) p = gI Z p := by
  unfold gI
  rw [List.getD_eq_getElem?_getD, List.getD_eq_getElem?_getD, List.getElem?_append_right (by rw [List.length_take]; omega), List.length_take, List.getElem?_drop]
  congr 2
  omega
theorem mix_same {F Z : List Int} {p : Nat} (hl : F.length = Z.length) (hp : p < Z.length) (h : gI F p = gI Z p) : F.take p ++ Z.drop p = F.take (p + 1) ++ Z.drop (p + 1) := by
  rw [← mix_one hl (gI_some (by omega)), h]
  have h1 := mix_get hl hp
  have h2 : p < (F.take p ++ Z.drop p).length := by simp; omega
  have h3 := gI_some h2
  rw [h1] at h3
  obtain ⟨h4, h5⟩ := List.getElem?_eq_some_iff.1 h3
  rw [← h5, List.set_getElem_self]

/-! ### the program -/
theorem cloE (a b : Int) (w : World) :
    Calls Try.prog 56 #[.int .i64 a, .int .i64 b] w fun e w' => e = .returned (.bool (betB false a b)) ∧ w = w' := by
  go_enter Try.func56, Try.ntmps56
  go_wp2
  go_ret
  exact ⟨rfl, rfl⟩
set_option maxHeartbeats 4000000 in
set_option maxRecDepth 100000 in
theorem extE (t : Terr) (A : Option Addr) (n c : Nat) (xs : List Scen) (B : Option Addr) (m d : Nat) (so : List Int) (st : Int) (w : World) (hT : TOk w t) (hS : Sl w 2 A n c (xs.flatMap Scen.row)) (hO : ScOk w xs) (hN : ∀ (i : Nat) (x : Scen), xs[i]? = some x → x.n ≤ 1048576) (hM : Sl w 1 B m d (ints so)) (hm : m ≤ 1048576) (hask : askB t xs so st = true) :
    Calls Try.prog 55 #[.agg #[.int .i64 t.W, .int .i64 t.H, .slice t.A t.n t.c], .slice A n c, .slice B m d, .int .i64 st, .func (.func 56) #[] #[]] w fun e w' => ∃ A' c', e = .returned (.slice A' t.n c') ∧ Own w.heap.size w'.heap.size w' 3 1 A' t.n c' (ints (extI false t so st xs n)) ∧ Below w.heap.size w w' := by
  have hlh := hid (hS.xs_len Scen.row_len (by omega))
  have hTz := (hT.bel (bel_alloc (o := .cells #[.int .i64 t.W, .int .i64 t.H, .slice t.A t.n t.c] 30) (bel_refl w)))
  have hMz := (hM.bel (bel_alloc (o := .cells #[.int .i64 t.W, .int .i64 t.H, .slice t.A t.n t.c] 30) (bel_refl w)))
  have hSz := (hS.bel (bel_alloc (o := .cells #[.int .i64 t.W, .int .i64 t.H, .slice t.A t.n t.c] 30) (bel_refl w)))
  have hOz := (hO.bel (bel_alloc (o := .cells #[.int .i64 t.W, .int .i64 t.H, .slice t.A t.n t.c] 30) (bel_refl w)))
  obtain ⟨hg, hens, hso, hst⟩ := askB_parts hask
  obtain ⟨hW, -, -, hn1, hn25, -⟩ := goodT_bd hg
  obtain ⟨hl1, hl4, hgs⟩ := ensB_parts hens
  have hn4 : (n : Int) ≤ 4 := by have := hlh.out; omega
  have hnb : (t.n : Int) ≤ 25 := by omega
  have hgs := hid hgs
  clear hl1 hl4 hens hask
  obtain ⟨i0, hi, hz0, hz1, hz2⟩ := info_parts info_int'
  go_enter Try.func55, Try.ntmps55
  go_wp2_with (at_make; refine wpList_make_full _ rfl _ _ 22 rfl ((w.alloc (.cells #[.int .i64 t.W, .int .i64 t.H, .slice t.A t.n t.c] 30))).heap.size 3 i0 _ 1 Try.underlying22 hi hz0 hz1 _ _ _ _ t.n rfl rfl rfl rfl (by rw [hz2]; omega) (by simp [maxLen]; omega) (Nat.le_refl _) ?_; intro w1 hown hg1)
  have hb1 : Below ((w.alloc (.cells #[.int .i64 t.W, .int .i64 t.H, .slice t.A t.n t.c] 30))).heap.size ((w.alloc (.cells #[.int .i64 t.W, .int .i64 t.H, .slice t.A t.n t.c] 30))) w1 := (Below.refl _ _).grown hg1 (Nat.le_refl _) (by simp)
  rw [made_int] at hown
  rw [show Value.slice (some ⟨((w.alloc (.cells #[.int .i64 t.W, .int .i64 t.H, .slice t.A t.n t.c] 30))).heap.size, 0, none⟩) t.n t.n = .slice (some ⟨w.heap.size + 1, 0, none⟩) t.n t.n from slice_at (by simp)] at hown
  have hs1 : S1 ((w.alloc (.cells #[.int .i64 t.W, .int .i64 t.H, .slice t.A t.n t.c] 30))) (w.heap.size + 1) t.n t.n (List.replicate t.n 0) w1 := ⟨hown, hb1⟩
  clear hown hb1 hg1
  generalize w.heap.size + 1 = g at hs1 ⊢
  go_loopw [23] (fun v wr => ∃ p : Nat, p ≤ t.n ∧ v = .int .i64 p ∧ S1 ((w.alloc (.cells #[.int .i64 t.W, .int .i64 t.H, .slice t.A t.n t.c] 30))) g t.n t.n ((List.replicate t.n (-1)).take p ++ (List.replicate t.n 0).drop p) wr) (fun v _ => t.n - (intOf v).toNat)
  case atStart => exact ⟨0, by omega, rfl, by simpa using hs1⟩
  case round =>
    clear hs1
    obtain ⟨p, hp', rfl, hs1⟩ := hrel
    by_cases hlt : p < t.n
    · have hi0 : (0 : Int) ≤ (p : Int) := by omega
      have hi1 : (p : Int) < (t.n : Int) := by omega
      have hfz := own_fz hs1.own p
      have c0 := hs1.at_ hlt
      go_wp2_with fail
      go_roundw
      case rel => exact ⟨p + 1, by omega, by go_num, by rw [← mix_one (v := -1) (by simp) (by simp [hlt])]; exact hs1.set p (-1)⟩
      case measure => simp [intOf]; omega
    · have hi1 : ¬ (p : Int) < (t.n : Int) := by omega
      have e : p = t.n := by omega
      rw [e, List.take_of_length_le (by simp), List.drop_of_length_le (by simp), List.append_nil] at hs1
      go_wp2_with fail
      clear hi1 e hp' hlt
      go_loopw [32] (fun v wr => ∃ i : Nat, i ≤ n ∧ v = .int .i64 i ∧ S1 ((w.alloc (.cells #[.int .i64 t.W, .int .i64 t.H, .slice t.A t.n t.c] 30))) g t.n t.n (extI false t so st xs i) wr) (fun v _ => n - (intOf v).toNat)
      case atStart => exact ⟨0, by omega, rfl, hs1⟩
      case round =>
        clear hs1
        obtain ⟨i, hi', rfl, hs1⟩ := hrel
        have hBo := hs1.bel
        by_cases hlt : i < n
        · obtain ⟨x, hx⟩ : ∃ x, xs[i]? = some x := get_of_lt (by rw [hlh.out]; exact hlt)
          obtain ⟨b, o, rfl, hb, c0, c1⟩ := (hSz.bel hBo).scen hx
          have hph := hOz i x hx
          have hxn := hid (hN i x hx)
          have hgx := hid (hgs.out i x hx)
          have hN1 := hid (extI_next (l := false) (t := t) (so := so) (st := st) hx)
          clear hx
          have hi0 : (0 : Int) ≤ (i : Int) := by omega
          have hi1 : (i : Int) < (n : Int) := by omega
          obtain ⟨k0, k1, k2⟩ := box_at hBo
          have hsz := hBo.size
          have hgw : w.heap.size < wr.heap.size := by simp at hsz; omega
          clear hsz
          have hsl : Hid ((extI false t so st xs i).length = t.n) := extI_len _ _ _ _ _ _
          obtain ⟨S, hSd⟩ : ∃ S, extI false t so st xs i = S := ⟨_, rfl⟩
          rw [hSd] at hs1 hN1 hsl
          clear hSd
          have hgl := (hs1.own.lt g rfl).2
          go_wp2_with (go_at_call 80; refine (arrIF t x.A x.n x.c x.ps B m d so st _ ((hTz.bel hBo).bel (bel_alloc (bel_refl _))) hg ((hph.bel hBo).bel (bel_alloc (bel_refl _))) hxn.out (goodSc_parts hgx.out).1 ((hMz.bel hBo).bel (bel_alloc (bel_refl _))) hm hso hst).mono ?_; rintro _ w2 ⟨A2, c3, rfl, hk, hO2, hB3⟩)
          obtain ⟨R, hRd⟩ : ∃ R, arrF t x.ps so st = R := ⟨_, rfl⟩
          rw [hRd] at hN1 hk hO2
          clear hRd
          have hRb := hid hk.bd
          clear hk
          obtain ⟨T, hTd⟩ : ∃ T, (List.range t.n).map (fun v => stepV false (gI S v) (gI R v)) = T := ⟨_, rfl⟩
          have hTl : Hid (T.length = S.length) := by show _ = _; rw [← hTd, hsl.out]; simp
          have hTg : Hid (∀ v, v < t.n → gI T v = stepV false (gI S v) (gI R v)) := by show ∀ v, _; rw [← hTd]; exact fun v hv => gI_map hv
          rw [hTd] at hN1
          clear hTd
          replace hs1 := (hs1.keep (bel_alloc (bel_refl _))).keep hB3
          replace hO2 := hO2.low (show wr.heap.size ≤ _ by simp)
          obtain ⟨L0, hL0⟩ : ∃ L0, wr.heap.size = L0 := ⟨_, rfl⟩
          obtain ⟨H0, hH0⟩ : ∃ H0, w2.heap.size = H0 := ⟨_, rfl⟩
          rw [hL0] at hgl
          rw [hL0, hH0] at hO2
          clear hL0 hH0 hB3 k0 k1 k2 hBo
          go_loopw [43] (fun v wr => ∃ q : Nat, q ≤ t.n ∧ v = .int .i64 q ∧ S1 ((w.alloc (.cells #[.int .i64 t.W, .int .i64 t.H, .slice t.A t.n t.c] 30))) g t.n t.n (T.take q ++ S.drop q) wr ∧ Own L0 H0 wr 3 1 A2 t.n c3 (ints R)) (fun v _ => t.n - (intOf v).toNat)
          case atStart => exact ⟨0, by omega, rfl, by simpa using hs1, hO2⟩
          case round =>
            clear hs1 hO2
            obtain ⟨q, hq', rfl, hs1, hO2⟩ := hrel
            have hlk : R.length = t.n := by have := hO2.own.1; rw [ints_len] at this; omega
            by_cases hlt2 : q < t.n
            · obtain ⟨y, hy⟩ : ∃ y, R[q]? = some y := get_of_lt (by omega)
              obtain ⟨b', o', rfl, hb', d0⟩ := hO2.sl.int_at hy
              have hyb := hRb.out q hlt2
              have hTq := hTg.out q hlt2
              rw [gI_get hy] at hyb hTq
              clear hy
              have hj0 : (0 : Int) ≤ (q : Int) := by omega
              have hj1 : (q : Int) < (t.n : Int) := by omega
              have e0 := hs1.at_ (v := q) (by omega)
              rw [mix_get hTl.out (by rw [hsl.out]; exact hlt2)] at e0
              have hfz := own_fz hs1.own q
              have hsame : Hid (gI T q = gI S q → T.take q ++ S.drop q = T.take (q + 1) ++ S.drop (q + 1)) := fun h => mix_same hTl.out (by rw [hsl.out]; exact hlt2) h
              have hnew : Hid (∀ y, gI T q = y → (T.take q ++ S.drop q).set q y = T.take (q + 1) ++ S.drop (q + 1)) := fun y h => by rw [← h]; exact mix_one hTl.out (gI_some (by rw [hTl.out, hsl.out]; exact hlt2))
              obtain ⟨z, hz⟩ : ∃ z, gI S q = z := ⟨_, rfl⟩
              rw [hz] at e0 hTq hsame
              clear hz
              obtain ⟨M, hMd⟩ : ∃ M, T.take q ++ S.drop q = M := ⟨_, rfl⟩
              rw [hMd] at hs1 hsame hnew
              clear hMd
              replace hTq := hid hTq
              by_cases hy1 : y = -1
              · have hF : Hid (gI T q = z) := by show _ = _; rw [hTq.out, stepV, if_neg (by simp [hy1])]
                subst hy1
                go_wp2_with fail
                go_roundw
                case rel => exact ⟨q + 1, by omega, by go_num, by rw [← hsame.out hF.out]; exact hs1, hO2⟩
                case measure => simp [intOf]; omega
              · by_cases hz1 : z = -1
                · have hF : Hid (gI T q = y) := by show _ = _; rw [hTq.out, stepV, if_pos ⟨hy1, Or.inl hz1⟩]
                  subst hz1
                  go_wp2_with fail
                  go_roundw
                  case rel => exact ⟨q + 1, by omega, by go_num, by rw [← hnew.out _ hF.out]; exact hs1.set q y, hs1.own_ hO2 hgl q y⟩
                  case measure => simp [intOf]; omega
                · have hz2 : (z == -1) = false := by simpa using hz1
                  rcases hbt : betB false y z with _ | _
                  · have hF : Hid (gI T q = z) := by show _ = _; rw [hTq.out, stepV, if_neg (by simp [hz1, hbt])]
                    go_wp2_with (go_at_call 56; refine (cloE y z _).mono ?_; rw [hbt]; rintro _ w9 ⟨rfl, rfl⟩)
                    go_roundw
                    case rel => exact ⟨q + 1, by omega, by go_num, by rw [← hsame.out hF.out]; exact hs1, hO2⟩
                    case measure => simp [intOf]; omega
                  · have hF : Hid (gI T q = y) := by show _ = _; rw [hTq.out, stepV, if_pos ⟨hy1, Or.inr hbt⟩]
                    go_wp2_with (go_at_call 56; refine (cloE y z _).mono ?_; rw [hbt]; rintro _ w9 ⟨rfl, rfl⟩)
                    go_roundw
                    case rel => exact ⟨q + 1, by omega, by go_num, by rw [← hnew.out _ hF.out]; exact hs1.set q y, hs1.own_ hO2 hgl q y⟩
                    case measure => simp [intOf]; omega
            · have hj1 : ¬ (q : Int) < (t.n : Int) := by omega
              rw [List.take_of_length_le (by rw [hTl.out, hsl.out]; omega), List.drop_of_length_le (by rw [hsl.out]; omega), List.append_nil] at hs1
              go_wp2_with fail
              go_roundw
              case rel => exact ⟨i + 1, by omega, by go_num, by rw [hN1.out]; exact hs1⟩
              case measure => simp [intOf]; omega
        · have hi1 : ¬ (i : Int) < (n : Int) := by omega
          have e : i = n := by omega
          go_wp2_with fail
          go_ret
          rw [e] at hs1
          exact ⟨_, _, rfl, Own.mk_ (own_low hs1.own (by simp)), (bel_alloc (bel_refl w)).trans (hs1.bel.mono (by simp))⟩
theorem cloL (a b : Int) (w : World) :
    Calls Try.prog 58 #[.int .i64 a, .int .i64 b] w fun e w' => e = .returned (.bool (betB true a b)) ∧ w = w' := by
  go_enter Try.func58, Try.ntmps58
  go_wp2
  go_ret
  exact ⟨rfl, rfl⟩
set_option maxHeartbeats 4000000 in
set_option maxRecDepth 100000 in
theorem extL (t : Terr) (A : Option Addr) (n c : Nat) (xs : List Scen) (B : Option Addr) (m d : Nat) (so : List Int) (st : Int) (w : World) (hT : TOk w t) (hS : Sl w 2 A n c (xs.flatMap Scen.row)) (hO : ScOk w xs) (hN : ∀ (i : Nat) (x : Scen), xs[i]? = some x → x.n ≤ 1048576) (hM : Sl w 1 B m d (ints so)) (hm : m ≤ 1048576) (hask : askB t xs so st = true) :
    Calls Try.prog 55 #[.agg #[.int .i64 t.W, .int .i64 t.H, .slice t.A t.n t.c], .slice A n c, .slice B m d, .int .i64 st, .func (.func 58) #[] #[]] w fun e w' => ∃ A' c', e = .returned (.slice A' t.n c') ∧ Own w.heap.size w'.heap.size w' 3 1 A' t.n c' (ints (extI true t so st xs n)) ∧ Below w.heap.size w w' := by
  have hlh := hid (hS.xs_len Scen.row_len (by omega))
  have hTz := (hT.bel (bel_alloc (o := .cells #[.int .i64 t.W, .int .i64 t.H, .slice t.A t.n t.c] 30) (bel_refl w)))
  have hMz := (hM.bel (bel_alloc (o := .cells #[.int .i64 t.W, .int .i64 t.H, .slice t.A t.n t.c] 30) (bel_refl w)))
  have hSz := (hS.bel (bel_alloc (o := .cells #[.int .i64 t.W, .int .i64 t.H, .slice t.A t.n t.c] 30) (bel_refl w)))
  have hOz := (hO.bel (bel_alloc (o := .cells #[.int .i64 t.W, .int .i64 t.H, .slice t.A t.n t.c] 30) (bel_refl w)))
  obtain ⟨hg, hens, hso, hst⟩ := askB_parts hask
  obtain ⟨hW, -, -, hn1, hn25, -⟩ := goodT_bd hg
  obtain ⟨hl1, hl4, hgs⟩ := ensB_parts hens
  have hn4 : (n : Int) ≤ 4 := by have := hlh.out; omega
  have hnb : (t.n : Int) ≤ 25 := by omega
  have hgs := hid hgs
  clear hl1 hl4 hens hask
  obtain ⟨i0, hi, hz0, hz1, hz2⟩ := info_parts info_int'
  go_enter Try.func55, Try.ntmps55
  go_wp2_with (at_make; refine wpList_make_full _ rfl _ _ 22 rfl ((w.alloc (.cells #[.int .i64 t.W, .int .i64 t.H, .slice t.A t.n t.c] 30))).heap.size 3 i0 _ 1 Try.underlying22 hi hz0 hz1 _ _ _ _ t.n rfl rfl rfl rfl (by rw [hz2]; omega) (by simp [maxLen]; omega) (Nat.le_refl _) ?_; intro w1 hown hg1)
  have hb1 : Below ((w.alloc (.cells #[.int .i64 t.W, .int .i64 t.H, .slice t.A t.n t.c] 30))).heap.size ((w.alloc (.cells #[.int .i64 t.W, .int .i64 t.H, .slice t.A t.n t.c] 30))) w1 := (Below.refl _ _).grown hg1 (Nat.le_refl _) (by simp)
  rw [made_int] at hown
  rw [show Value.slice (some ⟨((w.alloc (.cells #[.int .i64 t.W, .int .i64 t.H, .slice t.A t.n t.c] 30))).heap.size, 0, none⟩) t.n t.n = .slice (some ⟨w.heap.size + 1, 0, none⟩) t.n t.n from slice_at (by simp)] at hown
  have hs1 : S1 ((w.alloc (.cells #[.int .i64 t.W, .int .i64 t.H, .slice t.A t.n t.c] 30))) (w.heap.size + 1) t.n t.n (List.replicate t.n 0) w1 := ⟨hown, hb1⟩
  clear hown hb1 hg1
  generalize w.heap.size + 1 = g at hs1 ⊢
  go_loopw [23] (fun v wr => ∃ p : Nat, p ≤ t.n ∧ v = .int .i64 p ∧ S1 ((w.alloc (.cells #[.int .i64 t.W, .int .i64 t.H, .slice t.A t.n t.c] 30))) g t.n t.n ((List.replicate t.n (-1)).take p ++ (List.replicate t.n 0).drop p) wr) (fun v _ => t.n - (intOf v).toNat)
  case atStart => exact ⟨0, by omega, rfl, by simpa using hs1⟩
  case round =>
    clear hs1
    obtain ⟨p, hp', rfl, hs1⟩ := hrel
    by_cases hlt : p < t.n
    · have hi0 : (0 : Int) ≤ (p : Int) := by omega
      have hi1 : (p : Int) < (t.n : Int) := by omega
      have hfz := own_fz hs1.own p
      have c0 := hs1.at_ hlt
      go_wp2_with fail
      go_roundw
      case rel => exact ⟨p + 1, by omega, by go_num, by rw [← mix_one (v := -1) (by simp) (by simp [hlt])]; exact hs1.set p (-1)⟩
      case measure => simp [intOf]; omega
    · have hi1 : ¬ (p : Int) < (t.n : Int) := by omega
      have e : p = t.n := by omega
      rw [e, List.take_of_length_le (by simp), List.drop_of_length_le (by simp), List.append_nil] at hs1
      go_wp2_with fail
      clear hi1 e hp' hlt
      go_loopw [32] (fun v wr => ∃ i : Nat, i ≤ n ∧ v = .int .i64 i ∧ S1 ((w.alloc (.cells #[.int .i64 t.W, .int .i64 t.H, .slice t.A t.n t.c] 30))) g t.n t.n (extI true t so st xs i) wr) (fun v _ => n - (intOf v).toNat)
      case atStart => exact ⟨0, by omega, rfl, hs1⟩
      case round =>
        clear hs1
        obtain ⟨i, hi', rfl, hs1⟩ := hrel
        have hBo := hs1.bel
        by_cases hlt : i < n
        · obtain ⟨x, hx⟩ : ∃ x, xs[i]? = some x := get_of_lt (by rw [hlh.out]; exact hlt)
          obtain ⟨b, o, rfl, hb, c0, c1⟩ := (hSz.bel hBo).scen hx
          have hph := hOz i x hx
          have hxn := hid (hN i x hx)
          have hgx := hid (hgs.out i x hx)
          have hN1 := hid (extI_next (l := true) (t := t) (so := so) (st := st) hx)
          clear hx
          have hi0 : (0 : Int) ≤ (i : Int) := by omega
          have hi1 : (i : Int) < (n : Int) := by omega
          obtain ⟨k0, k1, k2⟩ := box_at hBo
          have hsz := hBo.size
          have hgw : w.heap.size < wr.heap.size := by simp at hsz; omega
          clear hsz
          have hsl : Hid ((extI true t so st xs i).length = t.n) := extI_len _ _ _ _ _ _
          obtain ⟨S, hSd⟩ : ∃ S, extI true t so st xs i = S := ⟨_, rfl⟩
          rw [hSd] at hs1 hN1 hsl
          clear hSd
          have hgl := (hs1.own.lt g rfl).2
          go_wp2_with (go_at_call 80; refine (arrIF t x.A x.n x.c x.ps B m d so st _ ((hTz.bel hBo).bel (bel_alloc (bel_refl _))) hg ((hph.bel hBo).bel (bel_alloc (bel_refl _))) hxn.out (goodSc_parts hgx.out).1 ((hMz.bel hBo).bel (bel_alloc (bel_refl _))) hm hso hst).mono ?_; rintro _ w2 ⟨A2, c3, rfl, hk, hO2, hB3⟩)
          obtain ⟨R, hRd⟩ : ∃ R, arrF t x.ps so st = R := ⟨_, rfl⟩
          rw [hRd] at hN1 hk hO2
          clear hRd
          have hRb := hid hk.bd
          clear hk
          obtain ⟨T, hTd⟩ : ∃ T, (List.range t.n).map (fun v => stepV true (gI S v) (gI R v)) = T := ⟨_, rfl⟩
          have hTl : Hid (T.length = S.length) := by show _ = _; rw [← hTd, hsl.out]; simp
          have hTg : Hid (∀ v, v < t.n → gI T v = stepV true (gI S v) (gI R v)) := by show ∀ v, _; rw [← hTd]; exact fun v hv => gI_map hv
          rw [hTd] at hN1
          clear hTd
          replace hs1 := (hs1.keep (bel_alloc (bel_refl _))).keep hB3
          replace hO2 := hO2.low (show wr.heap.size ≤ _ by simp)
          obtain ⟨L0, hL0⟩ : ∃ L0, wr.heap.size = L0 := ⟨_, rfl⟩
          obtain ⟨H0, hH0⟩ : ∃ H0, w2.heap.size = H0 := ⟨_, rfl⟩
          rw [hL0] at hgl
          rw [hL0, hH0] at hO2
          clear hL0 hH0 hB3 k0 k1 k2 hBo
          go_loopw [43] (fun v wr => ∃ q : Nat, q ≤ t.n ∧ v = .int .i64 q ∧ S1 ((w.alloc (.cells #[.int .i64 t.W, .int .i64 t.H, .slice t.A t.n t.c] 30))) g t.n t.n (T.take q ++ S.drop q) wr ∧ Own L0 H0 wr 3 1 A2 t.n c3 (ints R)) (fun v _ => t.n - (intOf v).toNat)
          case atStart => exact ⟨0, by omega, rfl, by simpa using hs1, hO2⟩
          case round =>
            clear hs1 hO2
            obtain ⟨q, hq', rfl, hs1, hO2⟩ := hrel
            have hlk : R.length = t.n := by have := hO2.own.1; rw [ints_len] at this; omega
            by_cases hlt2 : q < t.n
            · obtain ⟨y, hy⟩ : ∃ y, R[q]? = some y := get_of_lt (by omega)
              obtain ⟨b', o', rfl, hb', d0⟩ := hO2.sl.int_at hy
              have hyb := hRb.out q hlt2
              have hTq := hTg.out q hlt2
              rw [gI_get hy] at hyb hTq
              clear hy
              have hj0 : (0 : Int) ≤ (q : Int) := by omega
              have hj1 : (q : Int) < (t.n : Int) := by omega
              have e0 := hs1.at_ (v := q) (by omega)
              rw [mix_get hTl.out (by rw [hsl.out]; exact hlt2)] at e0
              have hfz := own_fz hs1.own q
              have hsame : Hid (gI T q = gI S q → T.take q ++ S.drop q = T.take (q + 1) ++ S.drop (q + 1)) := fun h => mix_same hTl.out (by rw [hsl.out]; exact hlt2) h
              have hnew : Hid (∀ y, gI T q = y → (T.take q ++ S.drop q).set q y = T.take (q + 1) ++ S.drop (q + 1)) := fun y h => by rw [← h]; exact mix_one hTl.out (gI_some (by rw [hTl.out, hsl.out]; exact hlt2))
              obtain ⟨z, hz⟩ : ∃ z, gI S q = z := ⟨_, rfl⟩
              rw [hz] at e0 hTq hsame
              clear hz
              obtain ⟨M, hMd⟩ : ∃ M, T.take q ++ S.drop q = M := ⟨_, rfl⟩
              rw [hMd] at hs1 hsame hnew
              clear hMd
              replace hTq := hid hTq
              by_cases hy1 : y = -1
              · have hF : Hid (gI T q = z) := by show _ = _; rw [hTq.out, stepV, if_neg (by simp [hy1])]
                subst hy1
                go_wp2_with fail
                go_roundw
                case rel => exact ⟨q + 1, by omega, by go_num, by rw [← hsame.out hF.out]; exact hs1, hO2⟩
                case measure => simp [intOf]; omega
              · by_cases hz1 : z = -1
                · have hF : Hid (gI T q = y) := by show _ = _; rw [hTq.out, stepV, if_pos ⟨hy1, Or.inl hz1⟩]
                  subst hz1
                  go_wp2_with fail
                  go_roundw
                  case rel => exact ⟨q + 1, by omega, by go_num, by rw [← hnew.out _ hF.out]; exact hs1.set q y, hs1.own_ hO2 hgl q y⟩
                  case measure => simp [intOf]; omega
                · have hz2 : (z == -1) = false := by simpa using hz1
                  rcases hbt : betB true y z with _ | _
                  · have hF : Hid (gI T q = z) := by show _ = _; rw [hTq.out, stepV, if_neg (by simp [hz1, hbt])]
                    go_wp2_with (go_at_call 58; refine (cloL y z _).mono ?_; rw [hbt]; rintro _ w9 ⟨rfl, rfl⟩)
                    go_roundw
                    case rel => exact ⟨q + 1, by omega, by go_num, by rw [← hsame.out hF.out]; exact hs1, hO2⟩
                    case measure => simp [intOf]; omega
                  · have hF : Hid (gI T q = y) := by show _ = _; rw [hTq.out, stepV, if_pos ⟨hy1, Or.inr hbt⟩]
                    go_wp2_with (go_at_call 58; refine (cloL y z _).mono ?_; rw [hbt]; rintro _ w9 ⟨rfl, rfl⟩)
                    go_roundw
                    case rel => exact ⟨q + 1, by omega, by go_num, by rw [← hnew.out _ hF.out]; exact hs1.set q y, hs1.own_ hO2 hgl q y⟩
                    case measure => simp [intOf]; omega
            · have hj1 : ¬ (q : Int) < (t.n : Int) := by omega
              rw [List.take_of_length_le (by rw [hTl.out, hsl.out]; omega), List.drop_of_length_le (by rw [hsl.out]; omega), List.append_nil] at hs1
              go_wp2_with fail
              go_roundw
              case rel => exact ⟨i + 1, by omega, by go_num, by rw [hN1.out]; exact hs1⟩
              case measure => simp [intOf]; omega
        · have hi1 : ¬ (i : Int) < (n : Int) := by omega
          have e : i = n := by omega
          go_wp2_with fail
          go_ret
          rw [e] at hs1
          exact ⟨_, _, rfl, Own.mk_ (own_low hs1.own (by simp)), (bel_alloc (bel_refl w)).trans (hs1.bel.mono (by simp))⟩
end Go.Proofs.Ytdfjfopbhlbmkaa

/-
  In how many scenarios each cell burns: of the program, walked.
-/
import Derived.Test.YtdfjfopbhlbmkaaWorst
namespace Go.Proofs.Ytdfjfopbhlbmkaa
open Go.RowKit

/-- One more for each cell of a list. -/
def addL (s : List Int) : List Int → List Int
  | [] => s
  | x :: xs => addL (s.set x.toNat (gI s x.toNat + 1)) xs
theorem addL_snoc (s : List Int) (xs : List Int) (x : Int) : addL s (xs ++ [x]) = (addL s xs).set x.toNat (gI (addL s xs) x.toNat + 1) := by
  induction xs generalizing s with
  | nil => rfl
  | cons y ys ih => rw [List.cons_append, addL, addL, ih]
theorem addL_next {s xs : List Int} {i : Nat} {x : Int} (hx : xs[i]? = some x) : addL s (xs.take (i + 1)) = (addL s (xs.take i)).set x.toNat (gI (addL s (xs.take i)) x.toNat + 1) := by
  rw [List.take_add_one, hx]
  exact addL_snoc _ _ _
theorem addL_len (s xs : List Int) : (addL s xs).length = s.length := by
  induction xs generalizing s with
  | nil => rfl
  | cons y ys ih => rw [addL, ih]; simp
/-- All values lie between 0 and a bound. -/
def Bd0 (s : List Int) (m : Int) : Prop := ∀ v, v < s.length → 0 ≤ gI s v ∧ gI s v ≤ m
theorem addL_bd {s : List Int} {m : Int} (h : Bd0 s m) : ∀ (xs : List Int), (∀ x ∈ xs, 0 ≤ x ∧ x < s.length) → Bd0 (addL s xs) (m + xs.length)
  | [], _ => by simpa [addL] using h
  | x :: xs, hx => by
    have hxb := hx x (by simp)
    have h1 : Bd0 (s.set x.toNat (gI s x.toNat + 1)) (m + 1) := fun v hv => by
      rw [List.length_set] at hv
      have h2 := h v hv
      have h3 := h x.toNat (by omega)
      rw [gI_set (by omega)]
      split <;> omega
    have := addL_bd h1 xs (fun y hy => by rw [List.length_set]; exact hx y (by simp [hy]))
    rw [addL]
    simpa [Int.add_assoc, Int.add_comm 1] using this
/-- The counts after the first i scenarios. -/
noncomputable def cntI (t : Terr) (so : List Int) (st tick : Int) (xs : List Scen) : Nat → List Int
  | 0 => List.replicate t.n 0
  | i + 1 => match xs[i]? with
    | some x => addL (cntI t so st tick xs i) (burnL t x.ps so st tick)
    | none => cntI t so st tick xs i
theorem cntI_next {t : Terr} {so : List Int} {st tick : Int} {xs : List Scen} {i : Nat} {x : Scen} (hx : xs[i]? = some x) : cntI t so st tick xs (i + 1) = addL (cntI t so st tick xs i) (burnL t x.ps so st tick) := by
  rw [cntI, hx]
theorem cntI_len (t : Terr) (so : List Int) (st tick : Int) (xs : List Scen) : ∀ i, (cntI t so st tick xs i).length = t.n
  | 0 => by simp [cntI]
  | i + 1 => by
    rw [cntI]
    split
    · rw [addL_len, cntI_len t so st tick xs i]
    · exact cntI_len t so st tick xs i
theorem burnL_mem {t : Terr} {ps : List Phase} {so : List Int} {st tick : Int} : ∀ x ∈ burnL t ps so st tick, 0 ≤ x ∧ x < t.n := fun x hx => by
  obtain ⟨i, rfl, h1, _⟩ := cellsL_mem.1 hx
  omega
theorem cntI_bd (t : Terr) (so : List Int) (st tick : Int) (xs : List Scen) : ∀ i : Nat, Bd0 (cntI t so st tick xs i) (t.n * i)
  | 0 => fun v hv => by
    rw [cntI_len] at hv
    rw [cntI, gI_get (x := 0) (by rw [List.getElem?_replicate, if_pos hv])]
    simp
  | i + 1 => by
    have ih := cntI_bd t so st tick xs i
    rcases hx : xs[i]? with _ | x
    · have e : cntI t so st tick xs (i + 1) = cntI t so st tick xs i := by rw [cntI, hx]
      rw [e]
      intro v hv
      have := ih v hv
      push_cast
      rw [Int.mul_add]
      omega
    · rw [cntI_next hx]
      have h1 := addL_bd ih (burnL t x.ps so st tick) (fun y hy => by rw [cntI_len]; exact burnL_mem y hy)
      have h2 : (burnL t x.ps so st tick).length ≤ t.n := cellsL_len _ _
      intro v hv
      have := h1 v hv
      push_cast
      rw [Int.mul_add]
      omega
set_option maxHeartbeats 4000000 in
set_option maxRecDepth 100000 in
theorem burnedIn (t : Terr) (A : Option Addr) (n c : Nat) (xs : List Scen) (B : Option Addr) (m d : Nat) (so : List Int) (st tick : Int) (w : World) (hT : TOk w t) (hS : Sl w 2 A n c (xs.flatMap Scen.row)) (hO : ScOk w xs) (hN : ∀ (i : Nat) (x : Scen), xs[i]? = some x → x.n ≤ 1048576) (hM : Sl w 1 B m d (ints so)) (hm : m ≤ 1048576) (hask : askB t xs so st = true) :
    Calls Try.prog 65 #[.agg #[.int .i64 t.W, .int .i64 t.H, .slice t.A t.n t.c], .slice A n c, .slice B m d, .int .i64 st, .int .i64 tick] w fun e w' => ∃ A' c', e = .returned (.slice A' t.n c') ∧ Own w.heap.size w'.heap.size w' 3 1 A' t.n c' (ints (cntI t so st tick xs n)) ∧ Below w.heap.size w w' := by
  have hlh := hid (hS.xs_len Scen.row_len (by omega))
  have hTz := (hT.bel (bel_alloc (o := .cells #[.int .i64 t.W, .int .i64 t.H, .slice t.A t.n t.c] 30) (bel_refl w)))
  have hMz := (hM.bel (bel_alloc (o := .cells #[.int .i64 t.W, .int .i64 t.H, .slice t.A t.n t.c] 30) (bel_refl w)))
  have hSz := (hS.bel (bel_alloc (o := .cells #[.int .i64 t.W, .int .i64 t.H, .slice t.A t.n t.c] 30) (bel_refl w)))
  have hOz := (hO.bel (bel_alloc (o := .cells #[.int .i64 t.W, .int .i64 t.H, .slice t.A t.n t.c] 30) (bel_refl w)))
  obtain ⟨hg, hens, hso, hst⟩ := askB_parts hask
  obtain ⟨hW, -, -, hn1, hn25, -⟩ := goodT_bd hg
  obtain ⟨hl1, hl4, hgs⟩ := ensB_parts hens
  have hn4 : (n : Int) ≤ 4 := by have := hlh.out; omega
  have hgs := hid hgs
  clear hl1 hl4 hens hask
  obtain ⟨i0, hi, hz0, hz1, hz2⟩ := info_parts info_int'
  go_enter Try.func65, Try.ntmps65
  go_wp2_with (at_make; refine wpList_make_full _ rfl _ _ 22 rfl ((w.alloc (.cells #[.int .i64 t.W, .int .i64 t.H, .slice t.A t.n t.c] 30))).heap.size 3 i0 _ 1 Try.underlying22 hi hz0 hz1 _ _ _ _ t.n rfl rfl rfl rfl (by rw [hz2]; omega) (by simp [maxLen]; omega) (Nat.le_refl _) ?_; intro w1 hown hg1)
  have hb1 : Below ((w.alloc (.cells #[.int .i64 t.W, .int .i64 t.H, .slice t.A t.n t.c] 30))).heap.size ((w.alloc (.cells #[.int .i64 t.W, .int .i64 t.H, .slice t.A t.n t.c] 30))) w1 := (Below.refl _ _).grown hg1 (Nat.le_refl _) (by simp)
  rw [made_int] at hown
  rw [show Value.slice (some ⟨((w.alloc (.cells #[.int .i64 t.W, .int .i64 t.H, .slice t.A t.n t.c] 30))).heap.size, 0, none⟩) t.n t.n = .slice (some ⟨w.heap.size + 1, 0, none⟩) t.n t.n from slice_at (by simp)] at hown
  have hs1 : S1 ((w.alloc (.cells #[.int .i64 t.W, .int .i64 t.H, .slice t.A t.n t.c] 30))) (w.heap.size + 1) t.n t.n (cntI t so st tick xs 0) w1 := ⟨hown, hb1⟩
  clear hown hb1 hg1
  generalize w.heap.size + 1 = g at hs1 ⊢
  go_loopw [22] (fun v wr => ∃ i : Nat, i ≤ n ∧ v = .int .i64 i ∧ S1 ((w.alloc (.cells #[.int .i64 t.W, .int .i64 t.H, .slice t.A t.n t.c] 30))) g t.n t.n (cntI t so st tick xs i) wr) (fun v _ => n - (intOf v).toNat)
  case atStart => exact ⟨0, by omega, rfl, hs1⟩
  case round =>
    clear hs1
    obtain ⟨i, hi', rfl, hs1⟩ := hrel
    have hBo := hs1.bel
    by_cases hlt : i < n
    · obtain ⟨x, hx⟩ : ∃ x, xs[i]? = some x := get_of_lt (by rw [hlh.out]; exact hlt)
      obtain ⟨b, o, rfl, hb, c0, c1⟩ := (hSz.bel hBo).scen hx
      have hph := hOz i x hx
      have hxn := hid (hN i x hx)
      have hgx := hid (hgs.out i x hx)
      have hN1 := hid (cntI_next (t := t) (so := so) (st := st) (tick := tick) hx)
      clear hx
      have hi0 : (0 : Int) ≤ (i : Int) := by omega
      have hi1 : (i : Int) < (n : Int) := by omega
      obtain ⟨k0, k1, k2⟩ := box_at hBo
      have hsz := hBo.size
      have hgw : w.heap.size < wr.heap.size := by simp at hsz; omega
      clear hsz
      have hbd : Hid (Bd0 (cntI t so st tick xs i) 100) := fun v hv => by
        have := cntI_bd t so st tick xs i v hv
        have h2 : (t.n : Int) * (i : Int) ≤ 25 * 4 := Int.mul_le_mul (by omega) (by omega) (by omega) (by omega)
        omega
      have hsl : Hid ((cntI t so st tick xs i).length = t.n) := cntI_len _ _ _ _ _ _
      obtain ⟨S, hSd⟩ : ∃ S, cntI t so st tick xs i = S := ⟨_, rfl⟩
      rw [hSd] at hs1 hN1 hbd hsl
      clear hSd
      obtain ⟨L, hLd⟩ : ∃ L, burnL t x.ps so st tick = L := ⟨_, rfl⟩
      have hLm : Hid (∀ y ∈ L, 0 ≤ y ∧ y < t.n) := by show ∀ y ∈ L, _; rw [← hLd]; exact burnL_mem
      have hLl : L.length ≤ 25 := by
        have h2 : (burnL t x.ps so st tick).length ≤ t.n := cellsL_len _ _
        rw [hLd] at h2
        omega
      rw [hLd] at hN1
      replace hLd := hid hLd
      have hgl := (hs1.own.lt g rfl).2
      go_wp2_with (go_at_call 47; refine (burned t x.A x.n x.c x.ps B m d so st _ ((hTz.bel hBo).bel (bel_alloc (bel_refl _))) hg ((hph.bel hBo).bel (bel_alloc (bel_refl _))) hxn.out (goodSc_parts hgx.out).1 ((hMz.bel hBo).bel (bel_alloc (bel_refl _))) hm hso hst tick).mono ?_; rw [hLd.out]; rintro _ w2 ⟨A2, k, c3, rfl, hO2, hB3⟩)
      replace hs1 := (hs1.keep (bel_alloc (bel_refl _))).keep hB3
      replace hO2 := hO2.low (show wr.heap.size ≤ _ by simp)
      obtain ⟨L0, hL0⟩ : ∃ L0, wr.heap.size = L0 := ⟨_, rfl⟩
      obtain ⟨H0, hH0⟩ : ∃ H0, w2.heap.size = H0 := ⟨_, rfl⟩
      rw [hL0] at hgl
      rw [hL0, hH0] at hO2
      clear hL0 hH0 hB3 k0 k1 k2 hBo
      go_loopw [34] (fun v wr => ∃ q : Nat, q ≤ k ∧ v = .int .i64 q ∧ S1 ((w.alloc (.cells #[.int .i64 t.W, .int .i64 t.H, .slice t.A t.n t.c] 30))) g t.n t.n (addL S (L.take q)) wr ∧ Own L0 H0 wr 3 1 A2 k c3 (ints L)) (fun v _ => k - (intOf v).toNat)
      case atStart => exact ⟨0, by omega, rfl, by simpa [addL] using hs1, hO2⟩
      case round =>
        clear hs1 hO2
        obtain ⟨q, hq', rfl, hs1, hO2⟩ := hrel
        have hlk : L.length = k := by have := hO2.own.1; rw [ints_len] at this; omega
        by_cases hlt2 : q < k
        · obtain ⟨y, hy⟩ : ∃ y, L[q]? = some y := get_of_lt (by omega)
          obtain ⟨b', o', rfl, hb', d0⟩ := hO2.sl.int_at hy
          have hyb := hLm.out y (List.mem_of_getElem? hy)
          obtain ⟨yn, rfl⟩ := Int.eq_ofNat_of_zero_le hyb.1
          have hN2 := hid (addL_next (s := S) hy)
          clear hy
          have hj0 : (0 : Int) ≤ (q : Int) := by omega
          have hj1 : (q : Int) < (k : Int) := by omega
          have hy0 : (0 : Int) ≤ (yn : Int) := by omega
          have hy1 : (yn : Int) < (t.n : Int) := by omega
          have hvb := addL_bd hbd.out (L.take q) (fun z hz => by rw [hsl.out]; exact hLm.out z (List.mem_of_mem_take hz)) yn (by rw [addL_len, hsl.out]; omega)
          have htl : (L.take q).length ≤ 25 := by rw [List.length_take]; omega
          have e0 := hs1.at_ (v := yn) (by omega)
          have hfz := own_fz hs1.own yn
          obtain ⟨T, hTd⟩ : ∃ T, addL S (L.take q) = T := ⟨_, rfl⟩
          rw [hTd] at hs1 hN2 hvb e0
          clear hTd
          obtain ⟨z, hz⟩ : ∃ z, gI T yn = z := ⟨_, rfl⟩
          have hz2 : 0 ≤ z ∧ z ≤ 200 := by rw [← hz]; omega
          rw [hz] at e0
          replace hz := hid hz
          clear hvb htl hyb
          go_wp2_with fail
          go_roundw
          case rel => exact ⟨q + 1, by omega, by go_num, by rw [hN2.out, Int.toNat_natCast, hz.out]; exact hs1.set yn (z + 1), hs1.own_ hO2 hgl yn (z + 1)⟩
          case measure => simp [intOf]; omega
        · have hj1 : ¬ (q : Int) < (k : Int) := by omega
          rw [List.take_of_length_le (by omega)] at hs1
          go_wp2_with fail
          go_roundw
          case rel => exact ⟨i + 1, by omega, by go_num, by rw [hN1.out]; exact hs1⟩
          case measure => simp [intOf]; omega
    · have hi1 : ¬ (i : Int) < (n : Int) := by omega
      have e : i = n := by omega
      go_wp2_with fail
      go_ret
      rw [e] at hs1
      exact ⟨_, _, rfl, Own.mk_ (own_low hs1.own (by simp)), (bel_alloc (bel_refl w)).trans (hs1.bel.mono (by simp))⟩
end Go.Proofs.Ytdfjfopbhlbmkaa

/-
  The cells that burn by a tick: of the program and of the reference, walked.
-/
import Derived.Test.YtdfjfopbhlbmkaaArrS
namespace Go.Proofs.Ytdfjfopbhlbmkaa
open Go.RowKit

theorem arrIF (t : Terr) (A : Option Addr) (n c : Nat) (ps : List Phase) (B : Option Addr) (m d : Nat) (so : List Int) (st : Int) (w : World) (hT : TOk w t) (hg : goodT t = true) (hS : Sl w 2 A n c (ps.flatMap Phase.row)) (hn : n ≤ 1048576) (hp : phasesB ps = true) (hM : Sl w 1 B m d (ints so)) (hm : m ≤ 1048576) (hso : setT t so = true) (hst : 0 ≤ st ∧ st ≤ 1000) : Calls Try.prog 80 #[.agg #[.int .i64 t.W, .int .i64 t.H, .slice t.A t.n t.c], .slice A n c, .slice B m d, .int .i64 st] w fun e w' => ∃ A' c', e = .returned (.slice A' t.n c') ∧ ArrOk t ps so st (arrF t ps so st) ∧ Own w.heap.size w'.heap.size w' 3 1 A' t.n c' (ints (arrF t ps so st)) ∧ Below w.heap.size w w' := by
  refine (arrI t A n c ps B m d so st w hT hg hS hn hp hM hm hso hst).mono ?_
  rintro _ w1 ⟨A', c', s, rfl, hk, hO, hB⟩
  have e := arrF_of hg hp hk
  exact ⟨A', c', rfl, by rw [e]; exact hk, by rw [e]; exact hO, hB⟩
theorem arrSF (t : Terr) (A : Option Addr) (n c : Nat) (ps : List Phase) (B : Option Addr) (m d : Nat) (so : List Int) (st : Int) (w : World) (hT : TOk w t) (hg : goodT t = true) (hS : Sl w 2 A n c (ps.flatMap Phase.row)) (hn : n ≤ 1048576) (hp : phasesB ps = true) (hM : Sl w 1 B m d (ints so)) (hm : m ≤ 1048576) (hso : setT t so = true) (hst : 0 ≤ st ∧ st ≤ 1000) : Calls Try.prog 74 #[.agg #[.int .i64 t.W, .int .i64 t.H, .slice t.A t.n t.c], .slice A n c, .slice B m d, .int .i64 st] w fun e w' => ∃ A' c', e = .returned (.slice A' t.n c') ∧ ArrOk t ps so st (arrF t ps so st) ∧ Own w.heap.size w'.heap.size w' 3 1 A' t.n c' (ints (arrF t ps so st)) ∧ Below w.heap.size w w' := by
  have _ := hso
  have hn1 := (goodT_bd hg).2.2.2.1
  obtain ⟨b, o, x, hA, -⟩ := hT.at_ hg (a := 0) (by omega)
  have h1 := arrS_go t b o A n c ps B m d so st w hA hT hg hS hn hp hM hm hst
  rw [← hA] at h1
  refine h1.mono ?_
  rintro _ w1 ⟨A', c', s, rfl, hk, hO, hB⟩
  have e := arrF_of hg hp hk
  exact ⟨A', c', rfl, by rw [e]; exact hk, by rw [e]; exact hO, hB⟩
noncomputable def burnP (t : Terr) (ps : List Phase) (so : List Int) (st tick : Int) (v : Nat) : Bool := inB (gI (arrF t ps so st) v) 0 tick
noncomputable def burnL (t : Terr) (ps : List Phase) (so : List Int) (st tick : Int) : List Int := cellsL t.n (burnP t ps so st tick)
set_option maxHeartbeats 1000000 in
theorem cloBurn (x gT gK n c : Nat) (A : Option Addr) (s : List Int) (tick : Int) (w : World) (hx : x < n) (hn : n ≤ 25) (hS : Sl w 1 A n c (ints s)) (c0 : w.cell? ⟨gT, 0, none⟩ = some (.slice A n c)) (d0 : w.cell? ⟨gK, 0, none⟩ = some (.int .i64 tick)) :
    Calls Try.prog 81 #[.int .i64 (x : Int), .pointer (some ⟨gT, 0, none⟩), .pointer (some ⟨gK, 0, none⟩)] w fun e w' => e = .returned (.bool (inB (gI s x) 0 tick)) ∧ Below w.heap.size w w' := by
  have hB2 := bel_refl w
  have hl := hS.int_len
  obtain ⟨y, hy⟩ := get_of_lt (xs := s) (i := x) (by omega)
  have hR := hid (gI_get hy)
  obtain ⟨b, o, rfl, hb, e0⟩ := hS.int_at hy
  have hgT := World.block_lt_of_cell? w _ c0
  have hgK := World.block_lt_of_cell? w _ d0
  simp only [] at hgT hgK
  have hx0 : (0 : Int) ≤ (x : Int) := by omega
  have hx1 : (x : Int) < (n : Int) := by omega
  have hn1 : (n : Int) ≤ 25 := by omega
  go_enter Try.func81, Try.ntmps81
  go_wp2_with fail
  (refine wp_region_bel (by kernel_rfl) (by kernel_rfl) ?_; have hD := bel_cells hB2; (repeat (go_big_quiet_step (((go_at_call 79; exact calls_bel_same (isIn _ _ _ _)))))); refine wpQuiet_nil ?_; intro w1 hB1; replace hB2 := bel_trans hB2 hB1; obtain ⟨hC1, hF1⟩ := bcell hB2; clear hD; replace hB1 := hB1)
  go_wp2
  go_ret
  exact ⟨ret_bool (by rw [hR.out]), by (repeat' (first | (with_reducible exact bel_refl _) | (with_reducible assumption) | (with_reducible refine bel_drew ?_) | (with_reducible refine bel_drewN ?_) | (with_reducible refine bel_alloc ?_) | (with_reducible refine bel_set ?_ ?_) | (with_reducible refine bel_trans ?_ (by with_reducible assumption)) | omega | (simp; done) | (simp; omega)))⟩
set_option maxHeartbeats 1000000 in
theorem burned (t : Terr) (A : Option Addr) (n c : Nat) (ps : List Phase) (B : Option Addr) (m d : Nat) (so : List Int) (st : Int) (w : World) (hT : TOk w t) (hg : goodT t = true) (hS : Sl w 2 A n c (ps.flatMap Phase.row)) (hn : n ≤ 1048576) (hp : phasesB ps = true) (hM : Sl w 1 B m d (ints so)) (hm : m ≤ 1048576) (hso : setT t so = true) (hst : 0 ≤ st ∧ st ≤ 1000) (tick : Int) :
    Calls Try.prog 47 #[.agg #[.int .i64 t.W, .int .i64 t.H, .slice t.A t.n t.c], .slice A n c, .slice B m d, .int .i64 st, .int .i64 tick] w fun e w' => ∃ A' k c', e = .returned (.slice A' k c') ∧ Own w.heap.size w'.heap.size w' 3 1 A' k c' (ints (burnL t ps so st tick)) ∧ Below w.heap.size w w' := by
  obtain ⟨hW, -, -, hn1, hn25, -⟩ := goodT_bd hg
  obtain ⟨Z, hZ⟩ : ∃ Z, (w.alloc (.cells #[.int .i64 t.W, .int .i64 t.H, .slice t.A t.n t.c] 30)).alloc (.cells #[.int .i64 tick] 3) = Z := ⟨_, rfl⟩
  have hb : Below w.heap.size w Z := by rw [← hZ]; exact bel_alloc (bel_alloc (bel_refl w))
  have c0 : Z.cell? ⟨w.heap.size, 0, none⟩ = some (.int .i64 t.W) := by rw [← hZ]; simp [go_sem]
  have c1 : Z.cell? ⟨w.heap.size, 1, none⟩ = some (.int .i64 t.H) := by rw [← hZ]; simp [go_sem]
  have c2 : Z.cell? ⟨w.heap.size, 2, none⟩ = some (.slice t.A t.n t.c) := by rw [← hZ]; simp [go_sem]
  have d0 : Z.cell? ⟨w.heap.size + 1, 0, none⟩ = some (.int .i64 tick) := by rw [← hZ]; simp [go_sem]
  have hs : w.heap.size + 1 < Z.heap.size := by rw [← hZ]; simp
  go_enter Try.func47, Try.ntmps47
  go_wp2_with (first | (go_at_call 66; refine (cellsBurn t _ _ (burnP t ps so st tick) _ hn25 (fun x w' hx hb' => cloBurn x _ _ t.n c1' A1 _ tick w' hx hn25 (hO.sl.bel (bel_trans (bel_alloc (bel_refl _)) hb')) (((bcell hb').1 _ 0 (by simp)).trans (by simp [go_sem])) (((bcell hb').1 _ 0 (by simp; omega)).trans (by simp [go_sem, d1, hs1])))).mono ?_; rintro _ w2 ⟨A2, k, c3, rfl, hO2, hB3⟩) | (go_at_call 80; (try rw [hZ]); refine (arrIF t A n c ps B m d so st Z (hT.bel hb) hg (hS.bel hb) hn hp (hM.bel hb) hm hso hst).mono ?_; rintro _ w1 ⟨A1, c1', rfl, hk, hO, hB1⟩; have e0 := ((bcell hB1).1 _ 0 (by omega)).trans c0; have e1 := ((bcell hB1).1 _ 1 (by omega)).trans c1; have e2 := ((bcell hB1).1 _ 2 (by omega)).trans c2; have d1 := ((bcell hB1).1 _ 0 hs).trans d0; have hs1 := Nat.lt_of_lt_of_le hs hB1.size; have hs2 : w.heap.size < w1.heap.size := by omega))
  go_ret
  exact ⟨A2, k, c3, rfl, hO2.low (by have := hb.size; have := hB1.size; simp; omega), bel_trans hb (bel_trans hB1 (bel_trans (bel_alloc (bel_refl _)) hB3))⟩
set_option maxHeartbeats 2000000 in
theorem l4Burned (A : Option Addr) (n c : Nat) (xs : List Int) (tick : Int) (w : World) (hS : Sl w 1 A n c (ints xs)) (hn : n ≤ 25) :
    Calls Try.prog 73 #[.slice A n c, .int .i64 tick] w fun e w' => ∃ A' k c', e = .returned (.slice A' k c') ∧ Own w.heap.size w'.heap.size w' 3 1 A' k c' (ints (cellsL n (fun v => inB (gI xs v) 0 tick))) ∧ Below w.heap.size w w' := by
  have hlh := hid hS.int_len
  obtain ⟨p, hp⟩ : ∃ p : Nat → Bool, (fun v => inB (gI xs v) 0 tick) = p := ⟨_, rfl⟩
  rw [hp]
  have hpv := hid (fun v => (congrFun hp v : inB (gI xs v) 0 tick = p v))
  clear hp
  go_enter Try.func73, Try.ntmps73
  go_wp2_with fail
  go_loopw [5, 6] (fun q v wr => ∃ i : Nat, i ≤ n ∧ v = .int .i64 i ∧ (∃ A' k c', q = .slice A' k c' ∧ wr.ownsRow w.heap.size 3 1 (.slice A' k c') k (ints (cellsL i p))) ∧ Below w.heap.size w wr) (fun _ v _ => n - (intOf v).toNat)
  case atStart => exact ⟨0, by omega, rfl, ⟨_, _, _, rfl, by simpa [cellsL, ints] using own_empty (w := w) (size := 1) (e := 3) (Nat.le_refl _)⟩, by (repeat' (first | (with_reducible exact bel_refl _) | (with_reducible assumption) | (with_reducible refine bel_drew ?_) | (with_reducible refine bel_drewN ?_) | (with_reducible refine bel_alloc ?_) | (with_reducible refine bel_set ?_ ?_) | (with_reducible refine bel_trans ?_ (by with_reducible assumption)) | omega | (simp; done) | (simp; omega)))⟩
  case round =>
    obtain ⟨i, hi', rfl, ⟨A', k, c', rfl, hown⟩, hB2⟩ := hrel
    by_cases hlt : i < n
    · obtain ⟨x, hx⟩ : ∃ x, xs[i]? = some x := get_of_lt (by rw [hlh.out]; exact hlt)
      obtain ⟨b, o, rfl, hb, c0⟩ := (hS.bel hB2).int_at hx
      have hpi := hpv.out i
      rw [gI_get hx] at hpi
      clear hx
      have hkl : k ≤ 25 := by
        have h1 := hown.1
        have h2 := cellsL_len i p
        rw [ints_len] at h1
        omega
      have hi0 : (0 : Int) ≤ (i : Int) := by omega
      have hi1 : (i : Int) < (n : Int) := by omega
      rcases hp : p i with _ | _
      · rw [hp] at hpi
        go_wp2_with (go_at_call 72; refine (l1In x 0 tick _).mono ?_; rw [hpi]; rintro _ w1 ⟨rfl, rfl⟩)
        go_roundw
        case rel => exact ⟨i + 1, by omega, by go_num, ⟨_, _, _, rfl, by rw [cellsL_no hp]; exact hown⟩, hB2⟩
        case measure => simp [intOf]; omega
      · rw [hp] at hpi
        go_wp2_with (first | (go_at_call 72; refine (l1In x 0 tick _).mono ?_; rw [hpi]; rintro _ w1 ⟨rfl, rfl⟩) | (at_builtin; refine wpList_push rfl (.tmp 20) (.tmp 22) 22 rfl w.heap.size 3 (.int .i64 0) 1 8 Try.underlying22 info_int' rfl (by omega) A' k c' _ [.int .i64 i] 3 rfl hown (by first | rfl | exact slice_at (by simp)) rfl (oneCell_int _) (by omega) (by omega) hB2.size ?_; intro A'' c'' w3 hown2 hb3 hg3))
        go_roundw
        case rel => exact ⟨i + 1, by omega, by go_num, ⟨_, _, _, rfl, by rw [← cellsL_yes hp, ← ints_snoc]; exact hown2⟩, Below.trans hB2 hb3⟩
        case measure => simp [intOf]; omega
    · have hi1 : ¬ (i : Int) < (n : Int) := by omega
      go_wp2
      go_ret
      have e : i = n := by omega
      rw [e] at hown
      exact ⟨A', k, c', rfl, Own.mk_ hown, hB2⟩
theorem goodSc_parts {x : Scen} (h : goodSc x = true) : phasesB x.ps = true ∧ 1 ≤ x.weight ∧ x.weight ≤ 100 := by
  simp only [goodSc, Bool.and_eq_true, inB_iff] at h
  exact ⟨h.1, h.2⟩
set_option maxHeartbeats 1000000 in
theorem l8Burned (t : Terr) (x : Scen) (B : Option Addr) (m d : Nat) (so : List Int) (st tick : Int) (w : World) (hT : TOk w t) (hg : goodT t = true) (hS : Sl w 2 x.A x.n x.c (x.ps.flatMap Phase.row)) (hn : x.n ≤ 1048576) (hx : goodSc x = true) (hM : Sl w 1 B m d (ints so)) (hm : m ≤ 1048576) (hso : setT t so = true) (hst : 0 ≤ st ∧ st ≤ 1000) :
    Calls Try.prog 43 #[.agg #[.int .i64 t.W, .int .i64 t.H, .slice t.A t.n t.c], .agg #[.slice x.A x.n x.c, .int .i64 x.weight], .slice B m d, .int .i64 st, .int .i64 tick] w fun e w' => ∃ A' k c', e = .returned (.slice A' k c') ∧ Own w.heap.size w'.heap.size w' 3 1 A' k c' (ints (burnL t x.ps so st tick)) ∧ Below w.heap.size w w' := by
  obtain ⟨hW, -, -, hn1, hn25, -⟩ := goodT_bd hg
  have hp := (goodSc_parts hx).1
  obtain ⟨Z, hZ⟩ : ∃ Z, (w.alloc (.cells #[.int .i64 t.W, .int .i64 t.H, .slice t.A t.n t.c] 30)).alloc (.cells #[.slice x.A x.n x.c, .int .i64 x.weight] 57) = Z := ⟨_, rfl⟩
  have hb : Below w.heap.size w Z := by rw [← hZ]; exact bel_alloc (bel_alloc (bel_refl w))
  have c0 : Z.cell? ⟨w.heap.size, 0, none⟩ = some (.int .i64 t.W) := by rw [← hZ]; simp [go_sem]
  have c1 : Z.cell? ⟨w.heap.size, 1, none⟩ = some (.int .i64 t.H) := by rw [← hZ]; simp [go_sem]
  have c2 : Z.cell? ⟨w.heap.size, 2, none⟩ = some (.slice t.A t.n t.c) := by rw [← hZ]; simp [go_sem]
  have d0 : Z.cell? ⟨w.heap.size + 1, 0, none⟩ = some (.slice x.A x.n x.c) := by rw [← hZ]; simp [go_sem]
  have d1 : Z.cell? ⟨w.heap.size + 1, 1, none⟩ = some (.int .i64 x.weight) := by rw [← hZ]; simp [go_sem]
  go_enter Try.func43, Try.ntmps43
  go_wp2_with (first | (go_at_call 73; refine (l4Burned _ _ _ _ tick w1 hO.sl hn25).mono ?_; rintro _ w2 ⟨A2, k, c3, rfl, hO2, hB3⟩) | (go_at_call 74; (try rw [hZ]); refine (arrSF t x.A x.n x.c x.ps B m d so st Z (hT.bel hb) hg (hS.bel hb) hn hp (hM.bel hb) hm hso hst).mono ?_; rintro _ w1 ⟨A1, c1', rfl, hk, hO, hB1⟩))
  go_ret
  exact ⟨A2, k, c3, rfl, hO2.low (by have := hb.size; have := hB1.size; omega), bel_trans hb (bel_trans hB1 hB3)⟩
end Go.Proofs.Ytdfjfopbhlbmkaa

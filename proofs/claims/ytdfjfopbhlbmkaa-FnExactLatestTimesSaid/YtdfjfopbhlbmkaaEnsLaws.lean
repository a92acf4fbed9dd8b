/-
  The law on ensembles: sizes, copies, comparison, and the law itself, walked.
-/
import Derived.Test.YtdfjfopbhlbmkaaEnsTop
namespace Go.Proofs.Ytdfjfopbhlbmkaa
open Go.RowKit

theorem szScenario (x : Scen) (l : Int) (w : World) (h0 : 0 ≤ l) (h1 : l ≤ 1048576) (hm : x.n ≤ maxLen) :
    Calls Try.prog 40 #[.agg #[.slice x.A x.n x.c, .int .i64 x.weight], .int .i64 l] w fun e w' => ∃ r : Int, e = .returned (.int .i64 r) ∧ (r < 0 ∨ (r = l - x.n ∧ (x.n : Int) ≤ l)) ∧ Below w.heap.size w w' := by
  have hB2 := bel_refl (w.alloc (.cells #[.slice x.A x.n x.c, .int .i64 x.weight] 51))
  by_cases hl : (x.n : Int) ≤ l
  · go_enter Try.func40, Try.ntmps40
    go_wp2_with (go_at_call 69; refine (szPhaseS_yes _ _ _ _ _ h0 h1 hl).mono ?_; rintro _ w1 ⟨rfl, rfl⟩)
    go_ret
    exact ⟨_, rfl, Or.inr ⟨rfl, hl⟩, by (repeat' (first | (with_reducible exact bel_refl _) | (with_reducible assumption) | (with_reducible refine bel_drew ?_) | (with_reducible refine bel_drewN ?_) | (with_reducible refine bel_alloc ?_) | (with_reducible refine bel_set ?_ ?_) | (with_reducible refine bel_trans ?_ (by with_reducible assumption)) | omega | (simp; done) | (simp; omega)))⟩
  · go_enter Try.func40, Try.ntmps40
    go_wp2_with (go_at_call 69; refine (szPhaseS_no _ _ _ _ _ h0 h1 hm hl).mono ?_; rintro _ w1 ⟨rfl, rfl⟩)
    go_ret
    exact ⟨-1, rfl, Or.inl (by omega), by (repeat' (first | (with_reducible exact bel_refl _) | (with_reducible assumption) | (with_reducible refine bel_drew ?_) | (with_reducible refine bel_drewN ?_) | (with_reducible refine bel_alloc ?_) | (with_reducible refine bel_set ?_ ?_) | (with_reducible refine bel_trans ?_ (by with_reducible assumption)) | omega | (simp; done) | (simp; omega)))⟩
set_option maxHeartbeats 1000000 in
theorem szScenarioS (A : Option Addr) (n c : Nat) (xs : List Scen) (w : World) (hS : Sl w 2 A n c (xs.flatMap Scen.row)) (hO : ScOk w xs) :
    Calls Try.prog 12 #[.slice A n c, .int .i64 1048576] w fun e w' => ∃ r : Int, e = .returned (.int .i64 r) ∧ (r < 0 ∨ (n ≤ 1048576 ∧ ∀ (i : Nat) (x : Scen), xs[i]? = some x → x.n ≤ 1048576)) ∧ Below w.heap.size w w' := by
  have hlh := hid (hS.xs_len Scen.row_len (by omega))
  have hmx := Nat.le_trans hS.cap hS.max
  unfold maxLen at hmx
  have hB2 := bel_refl w
  by_cases hn : n ≤ 1048576
  · go_enter Try.func12, Try.ntmps12
    go_wp2_with fail
    go_loopw [1, 5] (fun l v wr => ∃ i : Nat, i ≤ n ∧ v = .int .i64 i ∧ (∃ q : Int, l = .int .i64 q ∧ 0 ≤ q ∧ q ≤ 1048576) ∧ (Hid (∀ r, r < i → ∀ u, xs[r]? = some u → u.n ≤ 1048576)) ∧ Below w.heap.size w wr) (fun _ v _ => n - (intOf v).toNat)
    case atStart => exact ⟨0, by omega, rfl, ⟨_, rfl, by omega, by omega⟩, fun r hr => absurd hr (by omega), by (repeat' (first | (with_reducible exact bel_refl _) | (with_reducible assumption) | (with_reducible refine bel_drew ?_) | (with_reducible refine bel_drewN ?_) | (with_reducible refine bel_alloc ?_) | (with_reducible refine bel_set ?_ ?_) | (with_reducible refine bel_trans ?_ (by with_reducible assumption)) | omega | (simp; done) | (simp; omega)))⟩
    case round =>
      obtain ⟨i, hi', rfl, ⟨q, rfl, hq0, hq1⟩, hall, hB⟩ := hrel
      by_cases hlt : i < n
      · obtain ⟨x, hx⟩ : ∃ x, xs[i]? = some x := get_of_lt (by rw [hlh.out]; exact hlt)
        obtain ⟨b, o, rfl, hb', c0, c1⟩ := (hS.bel hB).scen hx
        have hX := hid hx
        have hcm := Nat.le_trans (hO i x hx).cap (hO i x hx).max
        clear hx
        have hi0 : (0 : Int) ≤ (i : Int) := by omega
        have hi1 : (i : Int) < (n : Int) := by omega
        go_wp2_with (go_at_call 40; refine (szScenario x _ _ hq0 hq1 hcm).mono ?_; rintro _ w1 ⟨r, rfl, hr, hB1⟩)
        · go_ret
          exact ⟨-1, rfl, Or.inl (by omega), by (repeat' (first | (with_reducible exact bel_refl _) | (with_reducible assumption) | (with_reducible refine bel_drew ?_) | (with_reducible refine bel_drewN ?_) | (with_reducible refine bel_alloc ?_) | (with_reducible refine bel_set ?_ ?_) | (with_reducible refine bel_trans ?_ (by with_reducible assumption)) | omega | (simp; done) | (simp; omega)))⟩
        · have hr1 : r = q - x.n ∧ (x.n : Int) ≤ q := by omega
          go_roundw
          case rel => exact ⟨i + 1, by omega, by go_num, ⟨_, rfl, by omega, by omega⟩, fun r hr u hu => (by
            rcases Nat.lt_or_ge r i with h1 | h1
            · exact hall.out r h1 u hu
            · rw [show r = i by omega, hX.out] at hu
              simp only [Option.some.injEq] at hu
              rw [← hu]; omega), by (repeat' (first | (with_reducible exact bel_refl _) | (with_reducible assumption) | (with_reducible refine bel_drew ?_) | (with_reducible refine bel_drewN ?_) | (with_reducible refine bel_alloc ?_) | (with_reducible refine bel_set ?_ ?_) | (with_reducible refine bel_trans ?_ (by with_reducible assumption)) | omega | (simp; done) | (simp; omega)))⟩
          case measure => simp [intOf]; omega
      · go_wp2
        go_ret
        exact ⟨_, rfl, Or.inr ⟨hn, fun r u hu => hall.out r (by have h1 := (List.getElem?_eq_some_iff.1 hu).1; rw [hlh.out] at h1; omega) u hu⟩, by (repeat' (first | (with_reducible exact bel_refl _) | (with_reducible assumption) | (with_reducible refine bel_drew ?_) | (with_reducible refine bel_drewN ?_) | (with_reducible refine bel_alloc ?_) | (with_reducible refine bel_set ?_ ?_) | (with_reducible refine bel_trans ?_ (by with_reducible assumption)) | omega | (simp; done) | (simp; omega)))⟩
  · go_enter Try.func12, Try.ntmps12
    go_wp2
    go_ret
    exact ⟨-1, rfl, Or.inl (by omega), by (repeat' (first | (with_reducible exact bel_refl _) | (with_reducible assumption) | (with_reducible refine bel_drew ?_) | (with_reducible refine bel_drewN ?_) | (with_reducible refine bel_alloc ?_) | (with_reducible refine bel_set ?_ ?_) | (with_reducible refine bel_trans ?_ (by with_reducible assumption)) | omega | (simp; done) | (simp; omega)))⟩
def Scen.data (x : Scen) : List Phase × Int := (x.ps, x.weight)
/-- Such a list of the call's own: the blocks of the phases apart. -/
structure OwnSc (lo hi : Nat) (w : World) (A : Option Addr) (n c : Nat) (xs : List Scen) : Prop where
  out : Own lo hi w 57 2 A n c (xs.flatMap Scen.row)
  row : ∀ (i : Nat) (x : Scen), xs[i]? = some x → Own lo hi w 88 2 x.A x.n x.c (x.ps.flatMap Phase.row)
  apart : ∀ (i j : Nat) (x y : Scen) (g : Nat), xs[i]? = some x → xs[j]? = some y → (Value.slice x.A x.n x.c).ownBlock = some g → (Value.slice y.A y.n y.c).ownBlock = some g → i = j
section
variable {w w' : World} {n c lo hi : Nat} {A : Option Addr} {xs : List Scen}
theorem OwnSc.bel (h : OwnSc lo hi w A n c xs) (hb : Below w.heap.size w w') : OwnSc lo hi w' A n c xs :=
  ⟨h.out.bel hb, fun i x hx => (h.row i x hx).bel hb, h.apart⟩
theorem OwnSc.ok (h : OwnSc lo hi w A n c xs) : ScOk w xs := fun i x hx => (h.row i x hx).sl
end
theorem ens_data {xs ys : List Scen} (h : ys.map Scen.data = xs.map Scen.data) : ensB ys = ensB xs := by
  have hl : ys.length = xs.length := by simpa using congrArg List.length h
  have e : ∀ zs : List Scen, zs.all goodSc = (zs.map Scen.data).all (fun d => phasesB d.1 && inB d.2 1 100) := fun zs => by
    rw [List.all_map]; rfl
  rw [ensB, ensB, hl, e, e, h]
theorem data_n {xs ys : List Scen} {i : Nat} {x y : Scen} (h : ys.map Scen.data = xs.map Scen.data) (hx : xs[i]? = some x) (hy : ys[i]? = some y) : y.ps = x.ps ∧ y.weight = x.weight := by
  have h1 := congrArg (fun l => l[i]?) h
  simp only [List.getElem?_map, hx, hy, Option.map_some, Option.some.injEq, Scen.data, Prod.mk.injEq] at h1
  exact h1
theorem own_put2 {w : World} {base g k n cap : Nat} {e : TypeId} {P Z : List Value} {p : Nat} {v0 v1 : Value} (h : w.ownsRow base e k (.slice (some ⟨g, 0, none⟩) n cap) n (P ++ Z.drop p)) (hP : P.length = p) (hz : p + 2 ≤ Z.length) :
    ((w.setCell ⟨g, p, none⟩ v0).setCell ⟨g, p + 1, none⟩ v1).ownsRow base e k (.slice (some ⟨g, 0, none⟩) n cap) n ((P ++ [v0, v1]) ++ Z.drop (p + 2)) := by
  subst hP
  have hF : (P ++ [v0, v1] ++ Z.drop (P.length + 2)).take P.length = P := by simp
  have h2 := own_store2 (F := P ++ [v0, v1] ++ Z.drop (P.length + 2)) (Z := Z) (p := P.length) (v0 := v0) (v1 := v1) (by rw [hF]; exact h) (by simp; omega) (by simp) (by simp)
  have h3 : (P ++ [v0, v1] ++ Z.drop (P.length + 2)).take (P.length + 2) = P ++ [v0, v1] := by
    rw [List.take_append, List.take_of_length_le (by simp)]; simp
  rw [h3] at h2
  exact h2
theorem Own.set {w : World} {lo hi k n c : Nat} {e : TypeId} {A : Option Addr} {L : List Value} (h : Own lo hi w e k A n c L) {g o : Nat} {s : Option Nat} {v : Value} (hg : g < lo ∨ hi ≤ g) : Own lo hi (w.setCell ⟨g, o, s⟩ v) e k A n c L :=
  h.grown (grown_set (World.grownBy.refl w (some g)) v) fun g' e => by
    simp only [Option.some.injEq] at e
    omega
set_option maxHeartbeats 1000000 in
theorem toScenario (x : Scen) (w : World) (h : Sl w 2 x.A x.n x.c (x.ps.flatMap Phase.row)) (hn : x.n ≤ 1048576) :
    Calls Try.prog 44 #[.agg #[.slice x.A x.n x.c, .int .i64 x.weight]] w fun e w' => ∃ g, e = .returned (.agg #[.slice (some ⟨g, 0, none⟩) x.n x.n, .int .i64 x.weight]) ∧ Own w.heap.size w'.heap.size w' 88 2 (some ⟨g, 0, none⟩) x.n x.n (x.ps.flatMap Phase.row) ∧ Below w.heap.size w w' := by
  have hB2 := bel_refl w
  go_enter Try.func44, Try.ntmps44
  go_wp2_with (go_at_call 75; refine (toPhaseS _ _ _ x.ps _ (h.bel (by (repeat' (first | (with_reducible exact bel_refl _) | (with_reducible assumption) | (with_reducible refine bel_drew ?_) | (with_reducible refine bel_drewN ?_) | (with_reducible refine bel_alloc ?_) | (with_reducible refine bel_set ?_ ?_) | (with_reducible refine bel_trans ?_ (by with_reducible assumption)) | omega | (simp; done) | (simp; omega))))) hn).mono ?_; rintro _ w1 ⟨g, rfl, hO, hB1⟩; obtain ⟨hC1, hF1⟩ := bcell hB1)
  have e0 : ∃ v, w1.cell? ⟨w.heap.size + 1, 0, none⟩ = some v := ⟨_, (hC1 _ _ (by simp)).trans (by simp [go_sem]; rfl)⟩
  have e1 : ∃ v, w1.cell? ⟨w.heap.size + 1, 1, none⟩ = some v := ⟨_, (hC1 _ _ (by simp)).trans (by simp [go_sem]; rfl)⟩
  obtain ⟨v0, e0⟩ := e0
  obtain ⟨v1, e1⟩ := e1
  refine bodyPost_ret (v := .agg #[.slice (some ⟨g, 0, none⟩) x.n x.n, .int .i64 x.weight]) (by simp [results, Try.results44, go_sem, e0, e1]) rfl ⟨g, rfl, ?_, by (repeat' (first | (with_reducible exact bel_refl _) | (with_reducible assumption) | (with_reducible refine bel_drew ?_) | (with_reducible refine bel_drewN ?_) | (with_reducible refine bel_alloc ?_) | (with_reducible refine bel_set ?_ ?_) | (with_reducible refine bel_trans ?_ (by with_reducible assumption)) | omega | (simp; done) | (simp; omega)))⟩
  exact ((((hO.set (g := w.heap.size + 1 + 1) (Or.inl (by simp))).set (g := w.heap.size + 1 + 1) (Or.inl (by simp))).set (g := w.heap.size + 1) (Or.inl (by simp))).set (g := w.heap.size + 1) (Or.inl (by simp))).low (by simp; omega) |>.high (by simp)
theorem snoc_get {α : Type} {ys : List α} {y z : α} {r : Nat} (h : (ys ++ [y])[r]? = some z) : ys[r]? = some z ∨ (r = ys.length ∧ z = y) := by
  rw [List.getElem?_append] at h
  split at h
  · exact Or.inl h
  · rename_i hge
    rcases h0 : r - ys.length with _ | k
    · rw [h0] at h
      simp only [List.getElem?_cons_zero, Option.some.injEq] at h
      exact Or.inr ⟨by omega, h.symm⟩
    · rw [h0] at h
      simp at h
theorem info_Scenario : (Try.prog.info? 57).map (fun i => (i.zero, i.size, i.bytes)) = some (some (.agg #[.slice none 0 0, .int .i64 0]), 2, 32) := by kernel_rfl
set_option maxHeartbeats 1000000 in
theorem toScenarioS (A : Option Addr) (n c : Nat) (xs : List Scen) (w : World) (hS : Sl w 2 A n c (xs.flatMap Scen.row)) (hO : ScOk w xs) (hN : ∀ (i : Nat) (x : Scen), xs[i]? = some x → x.n ≤ 1048576) (hn : n ≤ 1048576) :
    Calls Try.prog 15 #[.slice A n c] w fun e w' => ∃ g ys, e = .returned (.slice (some ⟨g, 0, none⟩) n n) ∧ ys.map Scen.data = xs.map Scen.data ∧ (∀ (i : Nat) (x : Scen), ys[i]? = some x → x.n ≤ 1048576) ∧ OwnSc w.heap.size w'.heap.size w' (some ⟨g, 0, none⟩) n n ys ∧ Below w.heap.size w w' := by
  have hlh := hid (hS.xs_len Scen.row_len (by omega))
  obtain ⟨i0, hi, hz0, hz1, hz2⟩ := info_parts info_Scenario
  go_enter Try.func15, Try.ntmps15
  go_wp2_with (at_make; refine wpList_make_full _ rfl _ _ 32 rfl w.heap.size 57 i0 _ 2 Try.underlying32 hi hz0 hz1 _ _ _ _ n rfl rfl rfl rfl (by rw [hz2]; omega) (by simp [maxLen]; omega) (Nat.le_refl _) ?_; intro w1 hown hg)
  have hb1 : Below w.heap.size w w1 := (Below.refl _ _).grown hg (Nat.le_refl _) (by simp)
  generalize hZ : (madeCells (Value.agg #[.slice none 0 0, .int .i64 0]).cells (n * 2)).toList = Z at hown
  have hZl : Hid (Z.length = n * 2) := by
    show _ = _
    rw [← hZ]
    simp [madeCells]
  clear hZ
  go_loopw [4] (fun v wr => ∃ (i : Nat) (ys : List Scen), i ≤ n ∧ v = .int .i64 i ∧ Hid (ys.map Scen.data = (xs.map Scen.data).take i) ∧ Hid (∀ (r : Nat) (y : Scen), ys[r]? = some y → y.n ≤ 1048576) ∧ wr.ownsRow w.heap.size 57 2 (.slice (some ⟨w.heap.size, 0, none⟩) n n) n (ys.flatMap Scen.row ++ Z.drop (i * 2)) ∧ Hid (∀ (r : Nat) (y : Scen), ys[r]? = some y → Own (w.heap.size + 1) wr.heap.size wr 88 2 y.A y.n y.c (y.ps.flatMap Phase.row)) ∧ Hid (∀ (i j : Nat) (x y : Scen) (g : Nat), ys[i]? = some x → ys[j]? = some y → (Value.slice x.A x.n x.c).ownBlock = some g → (Value.slice y.A y.n y.c).ownBlock = some g → i = j) ∧ Below w.heap.size w wr) (fun v _ => n - (intOf v).toNat)
  case atStart => exact ⟨0, [], Nat.zero_le _, rfl, rfl, by simp [Hid], by simpa using hown, by simp [Hid], by simp [Hid], hb1⟩
  case round =>
    obtain ⟨i, ys, hi', rfl, hda, hyn, hown, hrow, hap, hB⟩ := hrel
    by_cases hlt : i < n
    · obtain ⟨x, hx⟩ : ∃ x, xs[i]? = some x := get_of_lt (by rw [hlh.out]; exact hlt)
      obtain ⟨b, o, rfl, hb, c0, c1⟩ := (hS.bel hB).scen hx
      have hX := hid hx
      have hSx := (hO i x hx).bel hB
      have hNx := hN i x hx
      clear hx
      have hyl : Hid (ys.length = i) := by
        have := congrArg List.length hda.out
        simp only [List.length_map, List.length_take, hlh.out] at this
        show _ = _
        omega
      have hfz := own_fz hown
      obtain ⟨u0, d0⟩ := own_at hown (j := i * 2) (by omega)
      obtain ⟨u1, d1⟩ := own_at hown (j := i * 2 + 1) (by omega)
      have hsz : w.heap.size < wr.heap.size := (hown.lt _ rfl).2
      go_wp2_with (go_at_call 44; refine (toScenario x _ hSx hNx).mono ?_; rintro _ w2 ⟨g, rfl, hOg, hB1⟩; obtain ⟨hC1, hF1⟩ := bcell hB1)
      go_roundw
      case rel =>
        refine ⟨i + 1, ys ++ [⟨some ⟨g, 0, none⟩, x.n, x.n, x.ps, x.weight⟩], by omega, by go_num, ?_, ?_, ?_, ?_, ?_, by (repeat' (first | (with_reducible exact bel_refl _) | (with_reducible assumption) | (with_reducible refine bel_drew ?_) | (with_reducible refine bel_drewN ?_) | (with_reducible refine bel_alloc ?_) | (with_reducible refine bel_set ?_ ?_) | (with_reducible refine bel_trans ?_ (by with_reducible assumption)) | omega | (simp; done) | (simp; omega)))⟩
        · show _ = _
          rw [List.map_append, hda.out, List.take_add_one, List.getElem?_map, hX.out]
          rfl
        · intro r y hy
          rcases snoc_get hy with h1 | ⟨_, rfl⟩
          · exact hyn.out r y h1
          · exact hNx
        · have hP : (ys.flatMap Scen.row).length = i * 2 := by rw [flat_len Scen.row_len, hyl.out]
          rw [List.flatMap_append, show (i + 1) * 2 = i * 2 + 2 from by omega]
          exact own_put2 (own_bel hown hB1) hP (by rw [hZl.out]; omega)
        · intro r y hy
          rcases snoc_get hy with h1 | ⟨_, rfl⟩
          · exact (((((hrow.out r y h1).bel hB1).set (Or.inl (by omega))).set (Or.inl (by omega))).high (by have := hB1.size; simp; omega))
          · exact (((hOg.set (Or.inl (by omega))).set (Or.inl (by omega))).low (by omega)).high (by simp)
        · intro r j u v q hu hv hqu hqv
          rcases snoc_get hu with h1 | ⟨h1, rfl⟩
          · rcases snoc_get hv with h2 | ⟨h2, rfl⟩
            · exact hap.out r j u v q h1 h2 hqu hqv
            · have := (hrow.out r u h1).up q hqu
              have := (hOg.ob q hqv).1
              omega
          · rcases snoc_get hv with h2 | ⟨h2, rfl⟩
            · have := (hrow.out j v h2).up q hqv
              have := (hOg.ob q hqu).1
              omega
            · omega
      case measure => simp [intOf]; omega
    · go_wp2
      go_ret
      have e : i = n := by omega
      subst e
      rw [List.drop_of_length_le (by rw [hZl.out]; omega), List.append_nil] at hown
      refine ⟨w.heap.size, ys, rfl, ?_, hyn.out, ⟨Own.mk_ hown, fun r y hy => (hrow.out r y hy).low (by omega), hap.out⟩, by (repeat' (first | (with_reducible exact bel_refl _) | (with_reducible assumption) | (with_reducible refine bel_drew ?_) | (with_reducible refine bel_drewN ?_) | (with_reducible refine bel_alloc ?_) | (with_reducible refine bel_set ?_ ?_) | (with_reducible refine bel_trans ?_ (by with_reducible assumption)) | omega | (simp; done) | (simp; omega)))⟩
      rw [hda.out, List.take_of_length_le (by simp [hlh.out])]
theorem eqScenario (x y : Scen) (w : World) (h : Sl w 2 x.A x.n x.c (x.ps.flatMap Phase.row)) (h2 : Sl w 2 y.A y.n y.c (y.ps.flatMap Phase.row)) (hp : y.ps = x.ps) (hw : y.weight = x.weight) (hn : x.n ≤ 1048576) :
    Calls Try.prog 48 #[.agg #[.slice x.A x.n x.c, .int .i64 x.weight], .agg #[.slice y.A y.n y.c, .int .i64 y.weight]] w fun e w' => e = .returned (.bool true) ∧ Below w.heap.size w w' := by
  rw [hp] at h2
  have e1 : y.n = x.n := by
    have h3 := h.len
    have h4 := h2.len
    omega
  rw [hw, e1]
  rw [e1] at h2
  have hB2 := bel_refl ((w.alloc (.cells #[.slice x.A x.n x.c, .int .i64 x.weight] 57)).alloc (.cells #[.slice y.A x.n y.c, .int .i64 x.weight] 57))
  go_enter Try.func48, Try.ntmps48
  go_wp2_with (go_at_call 82; refine (eqPhaseS _ _ _ _ _ x.ps _ (h.bel (by (repeat' (first | (with_reducible exact bel_refl _) | (with_reducible assumption) | (with_reducible refine bel_drew ?_) | (with_reducible refine bel_drewN ?_) | (with_reducible refine bel_alloc ?_) | (with_reducible refine bel_set ?_ ?_) | (with_reducible refine bel_trans ?_ (by with_reducible assumption)) | omega | (simp; done) | (simp; omega))))) (h2.bel (by (repeat' (first | (with_reducible exact bel_refl _) | (with_reducible assumption) | (with_reducible refine bel_drew ?_) | (with_reducible refine bel_drewN ?_) | (with_reducible refine bel_alloc ?_) | (with_reducible refine bel_set ?_ ?_) | (with_reducible refine bel_trans ?_ (by with_reducible assumption)) | omega | (simp; done) | (simp; omega))))) hn).mono ?_; rintro _ w1 ⟨rfl, hB1⟩; (first | (with_reducible replace hB2 := bel_trans hB2 hB1) | (with_reducible replace hB2 := bel_trans (bel_alloc hB2) hB1)); obtain ⟨hC1, hF1⟩ := bcell hB2; replace hB1 := hB1)
  go_ret
  exact ⟨rfl, by (repeat' (first | (with_reducible exact bel_refl _) | (with_reducible assumption) | (with_reducible refine bel_drew ?_) | (with_reducible refine bel_drewN ?_) | (with_reducible refine bel_alloc ?_) | (with_reducible refine bel_set ?_ ?_) | (with_reducible refine bel_trans ?_ (by with_reducible assumption)) | omega | (simp; done) | (simp; omega)))⟩
set_option maxRecDepth 100000 in
theorem eqScenarioS (A B : Option Addr) (n c d : Nat) (xs ys : List Scen) (w : World) (h : Sl w 2 A n c (xs.flatMap Scen.row)) (hO : ScOk w xs) (h2 : Sl w 2 B n d (ys.flatMap Scen.row)) (hO2 : ScOk w ys) (hd : ys.map Scen.data = xs.map Scen.data) (hN : ∀ (i : Nat) (x : Scen), xs[i]? = some x → x.n ≤ 1048576) (hn : n ≤ 1048576) :
    Calls Try.prog 19 #[.slice A n c, .slice B n d] w fun e w' => e = .returned (.bool true) ∧ Below w.heap.size w w' := by
  have hlh := hid (h.xs_len Scen.row_len (by omega))
  have hlh2 := hid (h2.xs_len Scen.row_len (by omega))
  go_enter Try.func19, Try.ntmps19
  go_wp2
  go_loopw [5] (fun v wr => ∃ i : Nat, i ≤ n ∧ v = .int .i64 i ∧ Below w.heap.size w wr) (fun v _ => n - (intOf v).toNat)
  case atStart => exact ⟨0, Nat.zero_le _, rfl, by (repeat' (first | (with_reducible exact bel_refl _) | (with_reducible assumption) | (with_reducible refine bel_drew ?_) | (with_reducible refine bel_drewN ?_) | (with_reducible refine bel_alloc ?_) | (with_reducible refine bel_set ?_ ?_) | (with_reducible refine bel_trans ?_ (by with_reducible assumption)) | omega | (simp; done) | (simp; omega)))⟩
  case round =>
    obtain ⟨i, hi', rfl, hB⟩ := hrel
    by_cases hlt : i < n
    · obtain ⟨x, hx⟩ : ∃ x, xs[i]? = some x := get_of_lt (by rw [hlh.out]; exact hlt)
      obtain ⟨y, hy⟩ : ∃ y, ys[i]? = some y := get_of_lt (by rw [hlh2.out]; exact hlt)
      obtain ⟨b, o, rfl, hb, c0, c1⟩ := (h.bel hB).scen hx
      obtain ⟨b', o', rfl, hb', e0, e1⟩ := (h2.bel hB).scen hy
      have hSx := (hO i x hx).bel hB
      have hSy := (hO2 i y hy).bel hB
      have hNx := hN i x hx
      obtain ⟨hp, hw⟩ := data_n hd hx hy
      have hpp := hid hp
      have hww := hid hw
      clear hx hy hp hw
      have hB2 := bel_refl wr
      have hc0 : (0 : Int) ≤ (i : Int) := by omega
      have hc1 : (i : Int) < (n : Int) := by omega
      go_wp2_with fail
      (refine wp_region_bel (by kernel_rfl) (by kernel_rfl) ?_; have hD := bel_cells hB2; (repeat (go_big_quiet_step (((go_at_call 48; exact calls_bel (eqScenario x y _ (hSx.bel (Bel.prop _)) (hSy.bel (Bel.prop _)) hpp.out hww.out hNx)))))); refine wpQuiet_nil ?_; intro w1 hB1; replace hB2 := bel_trans hB2 hB1; obtain ⟨hC1, hF1⟩ := bcell hB2; clear hD; replace hB1 := hB1)
      go_wp2
      go_roundw
      case rel => exact ⟨i + 1, by omega, by go_num, by (repeat' (first | (with_reducible exact bel_refl _) | (with_reducible assumption) | (with_reducible refine bel_drew ?_) | (with_reducible refine bel_drewN ?_) | (with_reducible refine bel_alloc ?_) | (with_reducible refine bel_set ?_ ?_) | (with_reducible refine bel_trans ?_ (by with_reducible assumption)) | omega | (simp; done) | (simp; omega)))⟩
      case measure => simp [intOf]; omega
    · go_wp2
      go_ret
      exact ⟨rfl, by (repeat' (first | (with_reducible exact bel_refl _) | (with_reducible assumption) | (with_reducible refine bel_drew ?_) | (with_reducible refine bel_drewN ?_) | (with_reducible refine bel_alloc ?_) | (with_reducible refine bel_set ?_ ?_) | (with_reducible refine bel_trans ?_ (by with_reducible assumption)) | omega | (simp; done) | (simp; omega)))⟩
end Go.Proofs.Ytdfjfopbhlbmkaa

/-
  The clusters of hot spots, the program's way: the walk.
-/
import Derived.Test.YtkkoccllmflhfaaClusI
namespace Go.Proofs.Ytkkoccllmflhfaa
open Go.RowKit

/-- What holds inside the search. -/
structure InI (w : World) (xs : List Hotspot) (n t i k m : Nat) (y : Option Nat) (q : Value) (A' : Option Addr) (mo c' : Nat) (Vs : List Value) (wk : World) : Prop where
  mem : ∃ (M : List Nat) (g c : Nat) (B : List Bool), q = .slice (some ⟨g, 0, none⟩) M.length c ∧ wk.ownsRow w.heap.size 3 1 (.slice (some ⟨g, 0, none⟩) M.length c) M.length (ints (nats M)) ∧ wk.ownsRow w.heap.size 4 1 (.slice (some ⟨t, 0, none⟩) n n) n (bools B) ∧ B.length = xs.length ∧ Hid (Srch xs i k m B M) ∧ k ≤ M.length ∧ (y.isSome → M[k]? = y)
  out : OwnR 6 w.heap.size wk.heap.size wk 27 49 A' mo c' (hrows xs (clusU xs i)) Vs
  bel : Below w.heap.size w wk
theorem nats_get {M : List Nat} {k y : Nat} (h : M[k]? = some y) : (nats M)[k]? = some (y : Int) := by simp [nats, h]
theorem nats_len (M : List Nat) : (nats M).length = M.length := by simp [nats]
theorem nats_snoc (M : List Nat) (m : Nat) : ints (nats M) ++ [.int .i64 (m : Int)] = ints (nats (M ++ [m])) := by simp [nats, ints]
theorem bool_at {w : World} {lo g n c : Nat} {e : TypeId} {B : List Bool} {i : Nat} {v : Bool} (h : w.ownsRow lo e 1 (.slice (some ⟨g, 0, none⟩) n c) n (bools B)) (hv : B[i]? = some v) : w.cell? ⟨g, i, none⟩ = some (.bool v) := by
  have hl := h.1
  rw [bools_len] at hl
  have hi := (List.getElem?_eq_some_iff.1 hv).1
  rw [h.cellAt i (by omega)]
  simp [bools, hv]
theorem bool_set {w : World} {lo g n c : Nat} {e : TypeId} {B : List Bool} {i : Nat} (v : Bool) (h : w.ownsRow lo e 1 (.slice (some ⟨g, 0, none⟩) n c) n (bools B)) : (w.setCell ⟨g, i, none⟩ (.bool v)).ownsRow lo e 1 (.slice (some ⟨g, 0, none⟩) n c) n (bools (B.set i v)) := by
  have := (h.stored i (.bool v)).1
  rwa [bools_set] at this
theorem slice_at {g g' n : Nat} (h : g = g') : Value.slice (some ⟨g, 0, none⟩) n n = .slice (some ⟨g', 0, none⟩) n n := by rw [h]
theorem info_spots : (Try.prog.info? 27).map (fun i => (i.zero, i.size, i.bytes)) = some (some (.slice none 0 0), 1, 24) := by kernel_rfl
theorem meas {p j : Nat} (h : j < p) : p - (intOf (.int .i64 ((j : Int) + 1))).toNat < p - (intOf (.int .i64 (j : Int))).toNat := by simp only [intOf]; omega
theorem gro_cell (w : World) (g o : Nat) (v : Value) : w.grownBy (w.setCell ⟨g, o, none⟩ v) (some g) := grown_set (World.grownBy.refl _ _) v
set_option maxHeartbeats 16000000 in
set_option maxRecDepth 100000 in
theorem clustersI (A : Option Addr) (n c : Nat) (xs : List Hotspot) (w : World) (hS : Sl w 6 A n c (xs.flatMap Hotspot.row)) (hn : n ≤ 10) (ha : allH xs) :
    Calls Try.prog 38 #[.slice A n c] w fun e w' => ∃ A' n' c' Vs, e = .returned (.slice A' n' c') ∧ OwnR 6 w.heap.size w'.heap.size w' 27 49 A' n' c' (hrows xs (clusL xs)) Vs ∧ Below w.heap.size w w' := by
  have hlx := hid (hS.xs_len Hotspot.row_len (by omega))
  have hall := hid ha
  clear ha
  have hn0 : (n : Int) ≤ 10 := by omega
  go_enter Try.func38, Try.ntmps38
  go_upto_region 1 with fail
  go_cut [3, 4] (fun u v wx => ∃ (o : Option Addr) (t : Nat), u = .slice o 0 0 ∧ v = .slice (some ⟨t, 0, none⟩) n n ∧ wx.ownsRow w.heap.size 27 1 (.slice o 0 0) 0 [] ∧ wx.ownsRow w.heap.size 4 1 (.slice (some ⟨t, 0, none⟩) n n) n (bools (List.replicate n false)) ∧ Below w.heap.size w wx)
  case first => as_aux_lemma =>
    refine wp_region_plan (fun w' => Below w.heap.size w w') (.free 1 (.free 2 (.two 0 (.free 4 (.one 3 (.free 5 .stop))) 3 (.one 0 (.free 4 (.free 5 .stop)))))) (by kernel_rfl) (by kernel_rfl) (bel_drew (bel_refl w)) ?_
    simp only [Plan.ops, List.getElem?_cons_zero, List.getElem?_cons_succ, Option.getD_some]
    (iterate 2 (refine p_free rfl (by intro w' hw'; (go_simp; first | done | rfl)) ?_; (try simp only [Act.put, List.setIfInBounds_toArray, List.set_cons_zero, List.set_cons_succ])))
    refine p_two ?_ ?_
    · refine p_val rfl (by (go_simp; first | done | rfl | exact ⟨rfl, rfl⟩)) (bel_alloc (bel_drew (bel_refl w))) ?_
      (try simp only [Act.put, List.setIfInBounds_toArray, List.set_cons_zero, List.set_cons_succ])
      (iterate 1 (refine p_free rfl (by intro w' hw'; (go_simp; first | done | rfl)) ?_; (try simp only [Act.put, List.setIfInBounds_toArray, List.set_cons_zero, List.set_cons_succ])))
      refine p_makeG rfl (.tmp 14) (.tmp 14) 77 rfl w.heap.size 4 (.bool false) 1 1 Try.underlying77 info_bool n rfl rfl (by omega) (by simp [maxLen]; omega) (by simp) ?_
      intro t w1 ho1 hg1
      have hb1 := (bel_alloc (o := .cells #[] 27) (bel_drew (bel_refl w))).grown hg1 (by simp) (by simp)
      refine ⟨hb1, ?_⟩
      (try simp only [Act.put, List.setIfInBounds_toArray, List.set_cons_zero, List.set_cons_succ])
      (iterate 1 (refine p_free rfl (by intro w' hw'; (go_simp; first | done | rfl)) ?_; (try simp only [Act.put, List.setIfInBounds_toArray, List.set_cons_zero, List.set_cons_succ])))
      refine p_stop ?_
      (try simp only [Act.put, List.setIfInBounds_toArray, List.set_cons_zero, List.set_cons_succ])
      rw [made_bool] at ho1
      go_wp2_with fail
      go_meet
      exact ⟨_, t, rfl, rfl, own_keep (own_empty (w := w.drew) (base := w.heap.size) (size := 1) (e := 27) (by simp)) hg1, ho1, hb1⟩
    · refine p_makeG rfl (.tmp 14) (.tmp 14) 77 rfl w.heap.size 4 (.bool false) 1 1 Try.underlying77 info_bool n rfl rfl (by omega) (by simp [maxLen]; omega) (by simp) ?_
      intro t w1 ho1 hg1
      have hb1 := (bel_drew (bel_refl w)).grown hg1 (by simp) (by simp)
      refine ⟨hb1, ?_⟩
      (try simp only [Act.put, List.setIfInBounds_toArray, List.set_cons_zero, List.set_cons_succ])
      refine p_val rfl (by (go_simp; first | done | rfl | exact ⟨rfl, rfl⟩)) (bel_alloc hb1) ?_
      (try simp only [Act.put, List.setIfInBounds_toArray, List.set_cons_zero, List.set_cons_succ])
      (iterate 2 (refine p_free rfl (by intro w' hw'; (go_simp; first | done | rfl)) ?_; (try simp only [Act.put, List.setIfInBounds_toArray, List.set_cons_zero, List.set_cons_succ])))
      refine p_stop ?_
      (try simp only [Act.put, List.setIfInBounds_toArray, List.set_cons_zero, List.set_cons_succ])
      rw [made_bool] at ho1
      go_wp2_with fail
      go_meet
      exact ⟨_, t, rfl, rfl, own_empty (w := w1) (base := w.heap.size) (size := 1) (e := 27) hb1.size, own_bel ho1 (bel_alloc (bel_refl _)), bel_alloc hb1⟩
  case rest =>
    obtain ⟨o0, t, rfl, rfl, hO0, hT0, hb0⟩ := hcut
    go_wp2_with fail
    go_loopw [3, 18] (fun q v wr => ∃ i : Nat, i ≤ n ∧ v = .int .i64 i ∧ (∃ A' m c' Vs, q = .slice A' m c' ∧ OwnR 6 w.heap.size wr.heap.size wr 27 49 A' m c' (hrows xs (clusU xs i)) Vs) ∧ (∃ B, wr.ownsRow w.heap.size 4 1 (.slice (some ⟨t, 0, none⟩) n n) n (bools B) ∧ Hid (∀ x, x < xs.length → (B[x]? = some true ↔ x ∈ (clusU xs i).flatten))) ∧ Below w.heap.size w wr) (fun _ v _ => n - (intOf v).toNat)
    case atStart => exact ⟨0, by omega, rfl, ⟨_, _, _, [], rfl, ownR_nil (Own.mk_ hO0)⟩, ⟨_, hT0, hid (fun x hx => by rw [List.getElem?_replicate]; simp [clusU])⟩, hb0⟩
    case round =>
      obtain ⟨i, hi', rfl, ⟨A', m, c', Vs, rfl, hO⟩, ⟨B, hB, hT⟩, hBw⟩ := hrel
      have hm : m ≤ 10 := by
        have h1 := hO.rr.len
        have h2 := clusU_len xs i
        simp only [hrows, List.length_map] at h1
        omega
      by_cases hlt : i < n
      · have hBl : B.length = n := by have h1 := hB.1; rw [bools_len] at h1; omega
        obtain ⟨b, hb⟩ : ∃ b, B[i]? = some b := get_of_lt (by omega)
        have c0 := bool_at hB hb
        have hfz := own_fz hB
        have htl := (hB.lt t rfl).2
        have hi1 : (i : Int) < (n : Int) := by omega
        have hi0 : (0 : Int) ≤ (i : Int) := by omega
        have hix : i < xs.length := by rw [hlx.out]; exact hlt
        rcases b with _ | _
        · have hnew : newI xs i := by
            rw [new_iff hix, ← hT.out i hix, hb]
            simp
          replace hnew := hid hnew
          clear hb
          go_wp2_with fail
          have hM1 := World.ownsRow_lit (base := w.heap.size) (e := 3) (size := 1) (wr.setCell ⟨t, i, none⟩ (.bool true)) #[.int .i64 (i : Int)] 1 (by simpa using hBw.size) (by simp [maxLen]) rfl
          have hB1 := own_bel (bool_set (i := i) true hB) (bel_alloc (o := .cells #[.int .i64 (i : Int)] 3) (bel_refl _))
          have hO1 := ((hO.other hB (by decide) (by decide) (gro_cell wr t i (.bool true))).bel (bel_alloc (o := .cells #[.int .i64 (i : Int)] 3) (bel_refl _))).high (hi' := ((wr.setCell ⟨t, i, none⟩ (.bool true)).alloc (.cells #[.int .i64 (i : Int)] 3)).heap.size) (by simp)
          have hb1 : Below w.heap.size w ((wr.setCell ⟨t, i, none⟩ (.bool true)).alloc (.cells #[.int .i64 (i : Int)] 3)) := bel_alloc (bel_set hBw (hB.lt t rfl).1)
          have hI := InI.mk (y := none) ⟨[i], _, _, _, rfl, hM1, hB1, by rw [List.length_set, hBl, hlx.out], hid (srch_start hix (by rw [hBl, hlx.out]) hT.out), Nat.zero_le _, by simp⟩ hO1 hb1
          clear hM1 hB1 hO1 hb1 hO hB hT hBw hfz htl
          go_loopw [6, 7] (fun q v wk => ∃ k : Nat, v = .int .i64 k ∧ InI w xs n t i k 0 none q A' m c' Vs wk) (fun _ v _ => n + 1 - (intOf v).toNat)
          case atStart => exact ⟨0, rfl, by simpa using hI⟩
          case round =>
            clear hI
            obtain ⟨k, rfl, hI⟩ := hrel
            obtain ⟨M, g, cm, B, rfl, hM, hB, hBl, hSr, hkM, -⟩ := hI.mem
            have hMl : M.length ≤ n := by have := srch_len hSr.out; rw [hlx.out] at this; exact this
            by_cases hk : k < M.length
            · have hk1 : (k : Int) < (M.length : Int) := by omega
              obtain ⟨y, hy⟩ : ∃ y, M[k]? = some y := get_of_lt hk
              have hyx := (hSr.out.mem y (List.mem_of_getElem? hy)).1
              obtain ⟨a, ha⟩ : ∃ a, xs[y]? = some a := get_of_lt hyx
              have hga := hall.out y a ha
              have hA := hid ha
              have hIy : InI w xs n t i k 0 (some y) (.slice (some ⟨g, 0, none⟩) M.length cm) A' m c' Vs wr := ⟨⟨M, g, cm, B, rfl, hM, hB, hBl, hSr, hkM, fun _ => hy⟩, hI.out, hI.bel⟩
              have hkn : (k : Int) ≤ 10 := by omega
              clear hI hM hB hSr ha hy hkM hBl
              go_wp2_with fail
              go_loopw [6, 38] (fun q v wm => ∃ x : Nat, x ≤ n ∧ v = .int .i64 x ∧ InI w xs n t i k x (some y) q A' m c' Vs wm) (fun _ v _ => n - (intOf v).toNat)
              case atStart => exact ⟨0, by omega, rfl, hIy⟩
              case round => as_aux_lemma =>
                clear hIy hMl hk hk1
                obtain ⟨x, hxn, rfl, hI⟩ := hrel
                obtain ⟨M, g, cm, B, rfl, hM, hB, hBl, hSr, hkM, hyM⟩ := hI.mem
                replace hyM := hid (hyM rfl)
                have hMl : M.length ≤ n := by have := srch_len hSr.out; rw [hlx.out] at this; exact this
                by_cases hx : x < n
                · have hx1 : (x : Int) < (n : Int) := by omega
                  have hx0 : (0 : Int) ≤ (x : Int) := by omega
                  have hxx : x < xs.length := by rw [hlx.out]; exact hx
                  obtain ⟨b, hb⟩ : ∃ b, B[x]? = some b := get_of_lt (by omega)
                  have c0 := bool_at hB hb
                  have hfz := own_fz hB
                  have htl := (hB.lt t rfl).2
                  have hgl := (hM.lt g rfl).2
                  have hB2 := bel_refl wr
                  rcases b with _ | _
                  · obtain ⟨z, hz⟩ : ∃ z, xs[x]? = some z := get_of_lt hxx
                    have hgz := hall.out x z hz
                    have hN0 := hid (nearI_at hA.out hz)
                    have d0 := own_at_int hM (nats_get hyM.out)
                    have hkl := (List.getElem?_eq_some_iff.1 hyM.out).1
                    have hk0 : (0 : Int) ≤ (k : Int) := by omega
                    have hk2 : (k : Int) < (M.length : Int) := by omega
                    have hy0 : (0 : Int) ≤ (y : Int) := by omega
                    have hy1 : (y : Int) < (n : Int) := by have := hlx.out; omega
                    obtain ⟨bl, o, rfl, hbl, a0, a1, a2, a3, a4, a5⟩ := (hS.bel hI.bel).hotspot hA.out
                    obtain ⟨bl', o', hbo, _, z0, z1, z2, z3, z4, z5⟩ := (hS.bel hI.bel).hotspot hz
                    simp only [Option.some.injEq, Addr.mk.injEq, and_true] at hbo
                    obtain ⟨rfl, rfl⟩ := hbo
                    clear hz
                    rcases hs : sameB a z with _ | _
                    · have hN := hid (srch_far hSr.out hyM.out (hN0.out.trans hs))
                      go_wp2_with fail
                      (refine wp_region_bel (by kernel_rfl) (by kernel_rfl) ?_; have hD := bel_cells hB2; (repeat (go_big_quiet_step (((go_at_call 52; exact calls_bel (mayBeOneI a z _ hga hgz)))))); refine wpQuiet_nil ?_; intro w1 hB1; replace hB2 := bel_trans hB2 hB1; obtain ⟨hC1, hF1⟩ := bcell hB2; clear hD; replace hB1 := hB1)
                      rw [hs]
                      go_wp2_with fail
                      go_roundw
                      case rel => exact ⟨x + 1, by omega, by go_num, ⟨M, g, cm, B, rfl, own_bel hM hB2, own_bel hB hB2, hBl, hN, hkM, fun _ => hyM.out⟩, (hI.out.bel hB2).high hB2.size, bel_trans hI.bel hB2⟩
                      case measure => simp [intOf]; omega
                    · have hN := hid (srch_add hSr.out hBl hyM.out hb (hN0.out.trans hs))
                      go_wp2_with fail
                      (refine wp_region_bel (by kernel_rfl) (by kernel_rfl) ?_; have hD := bel_cells hB2; (repeat (go_big_quiet_step (((go_at_call 52; exact calls_bel (mayBeOneI a z _ hga hgz)))))); refine wpQuiet_nil ?_; intro w1 hB1; replace hB2 := bel_trans hB2 hB1; obtain ⟨hC1, hF1⟩ := bcell hB2; clear hD; replace hB1 := hB1)
                      rw [hs]
                      have hM1 := own_bel hM hB2
                      have hB1 := own_bel hB hB2
                      have hO1 := (hI.out.bel hB2).high hB2.size
                      have hb1 := bel_trans hI.bel hB2
                      have htl1 := (hB1.lt t rfl).2
                      have hfz1 := own_fz hB1 x
                      have e0 := bool_at hB1 hb
                      have hM2 := own_other hB1 hM1 (by decide) (gro_cell w1 t x (.bool true))
                      have hT2 := bool_set (i := x) true hB1
                      have hO2 := hO1.other hB1 (by decide) (by decide) (gro_cell w1 t x (.bool true))
                      have hb2 : Below w.heap.size w (w1.setCell ⟨t, x, none⟩ (.bool true)) := bel_set hb1 (hB1.lt t rfl).1
                      clear hb c0 a0 a1 a2 a3 a4 a5 z0 z1 z2 z3 z4 z5 d0 hfz hC1 hF1 hI hM hB hM1 hO1 hb1
                      go_wp2_with (at_builtin; refine wpList_push rfl (.tmp 63) (.tmp 65) 24 rfl w.heap.size 3 (.int .i64 0) 1 8 Try.underlying24 info_int rfl (by omega) _ M.length cm _ [.int .i64 (x : Int)] 3 rfl hM2 (by first | rfl | exact slice_at (by simp)) rfl (by intro u hu; rw [List.mem_singleton.1 hu]; rfl) (by omega) (by omega) hb2.size ?_; intro A3 c3 w3 hM3 hb3 hg3)
                      have hT3 := own_other hM2 hT2 (by decide) hg3
                      have hO3 := (hO2.other hM2 (by decide) (by decide) hg3).high (show w1.heap.size ≤ w3.heap.size by have := hg3.size; simpa [World.setCell] using this)
                      have hb3' := hb2.grown hg3 hb2.size fun q hq => (hM2.lt q hq).1
                      obtain ⟨g3, rfl, -, -⟩ := own_form hM3 (by omega)
                      have hl3 : (M ++ [x]).length = M.length + 1 := by simp
                      go_roundw
                      case rel => exact ⟨x + 1, by omega, by go_num, ⟨M ++ [x], g3, c3, B.set x true, by rw [hl3], by rw [hl3, ← nats_snoc]; exact hM3, hT3, by rw [List.length_set]; exact hBl, hN, by omega, fun _ => by rw [List.getElem?_append_left hkl]; exact hyM.out⟩, hO3, hb3'⟩
                      case measure => simp [intOf]; omega
                  · have hN := hid (srch_skip hnew.out hSr.out hxx hb)
                    clear hb
                    go_wp2_with fail
                    (refine wp_region_bel (by kernel_rfl) (by kernel_rfl) ?_; have hD := bel_cells hB2; (repeat (go_big_quiet_step ((fail)))); refine wpQuiet_nil ?_; intro w1 hB1; replace hB2 := bel_trans hB2 hB1; obtain ⟨hC1, hF1⟩ := bcell hB2; clear hD; replace hB1 := hB1)
                    go_wp2_with fail
                    go_roundw
                    case rel => exact ⟨x + 1, by omega, by go_num, ⟨M, g, cm, B, rfl, own_bel hM hB2, own_bel hB hB2, hBl, hN, hkM, fun _ => hyM.out⟩, (hI.out.bel hB2).high hB2.size, bel_trans hI.bel hB2⟩
                    case measure => simp [intOf]; omega
                · have hx1 : ¬ (x : Int) < (n : Int) := by omega
                  have e : x = xs.length := by rw [hlx.out]; omega
                  subst e
                  have hkl := (List.getElem?_eq_some_iff.1 hyM.out).1
                  have hN := hid (srch_next hSr.out)
                  go_wp2_with fail
                  go_roundw
                  case rel => exact ⟨k + 1, by go_num, ⟨M, g, cm, B, rfl, hM, hB, hBl, hN, by omega, by simp⟩, hI.out, hI.bel⟩
                  case measure => simp [intOf]; omega
            · have hk1 : ¬ (k : Int) < (M.length : Int) := by omega
              obtain rfl : k = M.length := by omega
              obtain ⟨p, hpM⟩ : ∃ p, M.length = p := ⟨_, rfl⟩
              have hend := hid (fun ys => srch_end (ys := ys) hSr.out)
              have htk := hid (srch_taken hnew.out hSr.out)
              have hO := hI.out
              have hBw := hI.bel
              have hMem := hid hSr.out.mem
              rw [hpM] at hM hk1 hMl hend ⊢
              clear hI hkM
              go_wp2_with fail
              refine (sortInts g p cm w.heap.size (nats M) _ hM (by omega)).mono ?_
              rintro _ w1 ⟨⟨v, rfl⟩, ⟨ys, hp, hu, hM1⟩, hg1⟩
              have hys := hend.out ys hp hu
              have hCl : (comp xs i).length = p := by rw [← hpM, ← nats_len M, ← hp.length_eq, hys]; simp [nats]
              subst hys
              replace hB := own_other hM hB (by decide) hg1
              replace hO := (hO.other hM (by decide) (by decide) hg1).high hg1.size
              replace hBw := hBw.grown hg1 hBw.size fun q hq => by cases hq; exact (hM.lt g rfl).1
              have hCc := hid (fun (k : Nat) (h : k ∈ comp xs i) => (mem_comp.1 h).1)
              have hCs := hid (clusU_yes hnew.out)
              obtain ⟨C, hC⟩ : ∃ C, comp xs i = C := ⟨_, rfl⟩
              rw [hC] at hM1 hCl hCc hCs
              clear hM hg1 hp hu hend hMem hC
              obtain ⟨q0, hq⟩ : ∃ q0, w1.heap.size = q0 := ⟨_, rfl⟩
              have hH0 := own_empty (w := w1) (base := q0) (size := 6) (e := 49) (by omega)
              have hwq : w.heap.size ≤ q0 := by rw [← hq]; exact hBw.size
              replace hM1 := own_bel hM1 (bel_alloc (o := .cells #[] 49) (bel_refl _))
              replace hB := own_bel hB (bel_alloc (o := .cells #[] 49) (bel_refl _))
              replace hO := hO.bel (bel_alloc (o := .cells #[] 49) (bel_refl _))
              rw [hq] at hO
              have hsz : q0 ≤ (w1.alloc (.cells #[] 49)).heap.size := by simp; omega
              replace hq := hid hq
              replace hBw := bel_alloc (o := .cells #[] 49) hBw
              go_wp2_with fail
              go_loopw [9, 73] (fun q v wr => ∃ j : Nat, j ≤ p ∧ v = .int .i64 j ∧ (∃ A4 c4, q = .slice A4 j c4 ∧ wr.ownsRow q0 49 6 (.slice A4 j c4) j ((pickH xs (C.take j)).flatMap Hotspot.row)) ∧ wr.ownsRow w.heap.size 3 1 (.slice (some ⟨g, 0, none⟩) p cm) p (ints (nats C)) ∧ wr.ownsRow w.heap.size 4 1 (.slice (some ⟨t, 0, none⟩) n n) n (bools B) ∧ OwnR 6 w.heap.size q0 wr 27 49 A' m c' (hrows xs (clusU xs i)) Vs ∧ Below w.heap.size w wr ∧ q0 ≤ wr.heap.size) (fun _ v _ => p - (intOf v).toNat)
              case atStart => exact ⟨0, by omega, rfl, ⟨_, _, rfl, by simpa [pickH] using hH0⟩, hM1, hB, hO, hBw, hsz⟩
              case round =>
                clear hH0 hM1 hB hO hBw hsz
                obtain ⟨j, hj, rfl, ⟨A4, c4, rfl, hH⟩, hM, hB, hO, hBw, hq0⟩ := hrel
                have hj10 : j ≤ 10 := by omega
                by_cases hlj : j < p
                · have hj1 : (j : Int) < (p : Int) := by omega
                  have hj0 : (0 : Int) ≤ (j : Int) := by omega
                  obtain ⟨y, hy⟩ : ∃ y, C[j]? = some y := get_of_lt (by omega)
                  have hyx := hCc.out y (List.mem_of_getElem? hy)
                  obtain ⟨z, hz⟩ : ∃ z, xs[y]? = some z := get_of_lt hyx
                  have hN := hid (pick_next hy hz)
                  have d0 := own_at_int hM (nats_get hy)
                  have hgl := (hM.lt g rfl).2
                  have hy0 : (0 : Int) ≤ (y : Int) := by omega
                  have hy1 : (y : Int) < (n : Int) := by have := hlx.out; omega
                  obtain ⟨bl, o, rfl, hbl, z0, z1, z2, z3, z4, z5⟩ := (hS.bel hBw).hotspot hz
                  clear hy hz
                  go_wp2_with (at_builtin; refine wpList_push rfl (.tmp 77) (.tmp 82) 27 rfl q0 49 (.agg #[.int .i64 0, .int .i64 0, .int .i64 0, .int .i64 0, .int .i64 0, .int .i64 0]) 6 48 Try.underlying27 info_Hotspot rfl (by omega) A4 j c4 _ [.int .i64 z.id, .int .i64 z.x, .int .i64 z.y, .int .i64 z.err, .int .i64 z.tick, .int .i64 z.heat] 49 rfl hH (by first | rfl | exact slice_at (by simp)) rfl (by intro u hu; simp only [List.mem_cons, List.not_mem_nil, or_false] at hu; rcases hu with rfl | rfl | rfl | rfl | rfl | rfl <;> rfl) (by omega) (by omega) hq0 ?_; intro A5 c5 w5 hH5 hb5 hg5)
                  have eR : [z].flatMap Hotspot.row = [.int .i64 z.id, .int .i64 z.x, .int .i64 z.y, .int .i64 z.err, .int .i64 z.tick, .int .i64 z.heat] := rfl
                  rw [← eR, ← List.flatMap_append, ← hN.out] at hH5
                  clear hN eR
                  have hM5 := own_other hH hM (by decide) hg5
                  have hB5 := own_other hH hB (by decide) hg5
                  have hO5 := hO.apart hg5 fun q hq => Or.inr (hH.lt q hq).1
                  have hBw5 := hBw.grown hg5 hBw.size fun q hq => Nat.le_trans hwq (hH.lt q hq).1
                  refine ⟨⟨j + 1, hlj, by go_num, ⟨_, _, rfl, hH5⟩, hM5, hB5, hO5, hBw5, Nat.le_trans hq0 hg5.size⟩, ?_⟩
                  exact meas hlj
                · have hj1 : ¬ (j : Int) < (p : Int) := fun h => hlj (Int.ofNat_lt.1 h)
                  obtain rfl : j = p := Nat.le_antisymm hj (Nat.le_of_not_lt hlj)
                  rw [List.take_of_length_le (Nat.le_of_eq hCl)] at hH
                  have hm1 := hid (pick_all (xs := xs) (l := C) hCc.out)
                  go_wp2_with (at_builtin; refine wpList_push rfl (.tmp 85) (.tmp 87) 59 rfl w.heap.size 27 (.slice none 0 0) 1 24 Try.underlying59 info_spots rfl (by omega) A' m c' _ [.slice A4 j c4] 27 rfl hO.out.own (by first | rfl | exact slice_at (by simp)) rfl (by intro u hu; rw [List.mem_singleton.1 hu]; rfl) (by omega) (by omega) hBw.size ?_; intro A6 c6 w6 hO6 hb6 hg6)
                  have hHo : Own w.heap.size w6.heap.size wr 49 6 A4 j c4 ((pickH xs C).flatMap Hotspot.row) := (Own.mk_ (own_low hH hwq)).high hg6.size
                  have hO7 := OwnR.push hO (Nat.le_trans hq0 hg6.size) (by decide) hHo (Own.mk_ hO6) hg6
                  rw [hrows_snoc, ← hCs.out] at hO7
                  have hB7 := own_other hO.out.own hB (by decide) hg6
                  have hBw7 := hBw.grown hg6 hBw.size fun q hq => (hO.out.own.lt q hq).1
                  refine ⟨⟨i + 1, hlt, by go_num, ⟨_, _, _, _, rfl, hO7⟩, ⟨B, hB7, htk⟩, hBw7⟩, ?_⟩
                  exact meas hlt
        · have hold : ¬ newI xs i := by
            rw [new_iff hix, ← hT.out i hix, hb]
            simp
          have hN := hid (clusU_no hold)
          clear hb
          go_wp2_with fail
          go_roundw
          case rel => exact ⟨i + 1, by omega, by go_num, ⟨_, _, _, Vs, rfl, by rw [hN.out]; exact hO⟩, ⟨B, hB, by rw [hN.out]; exact hT⟩, hBw⟩
          case measure => simp [intOf]; omega
      · have hi1 : ¬ (i : Int) < (n : Int) := by omega
        have e : i = xs.length := by rw [hlx.out]; omega
        subst e
        go_wp2_with fail
        go_ret
        exact ⟨_, _, _, rfl, ⟨Vs, hO⟩, hBw⟩
end Go.Proofs.Ytkkoccllmflhfaa

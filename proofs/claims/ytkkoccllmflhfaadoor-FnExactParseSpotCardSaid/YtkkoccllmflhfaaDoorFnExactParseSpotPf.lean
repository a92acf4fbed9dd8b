/-
  For every text the program's ParseSpot returns what the reference's returns. Conditions: none (the tables and the two errors of the library that it lists are tied to the program's text).
-/
import Derived.Test.YtkkoccllmflhfaaDoorSpotLaws8
import Derived.Test.YtkkoccllmflhfaaDoorLiftTied
import Derived.Test.YtkkoccllmflhfaaDoorCards
import Derived.LaidLaws
import Derived.ChangeMaps5
import Derived.Test.YtkkoccllmflhfaaDoorTie
namespace Go.Proofs.YtkkoccllmflhfaaDoor
open Go.ChangeShapes Go.WideShapes Go.ChangeAt Go.RowKit Go.Joins

theorem env_of {W : World} (h : laidMetH Tryd.prog Rows.fnExactParseSpotRow.laid W) (hsh : W.ShapedOpen Tryd.prog) : Env W := by
  rw [MakeChecks.laidMetH_plain _ _ _ (by kernel_rfl)] at h
  obtain ⟨ps, ⟨g0, t0, cs0, f0, p0, q0, hg0, ht0, hv0, hd0, ⟨g1, t1, cs1, f1, p1, q1, hg1, ht1, hv1, hd1, ⟨g2, t2, cs2, f2, p2, q2, hg2, ht2, hv2, hd2, ⟨g3, t3, cs3, f3, p3, q3, hg3, ht3, hv3, hd3, ⟨g4, t4, cs4, f4, p4, q4, hg4, ht4, hv4, hd4, ⟨g5, t5, cs5, f5, p5, q5, hg5, ht5, hv5, hd5, _⟩, _⟩, _⟩, _⟩, _⟩, _⟩, _⟩ := h
  refine ⟨?_, lays146.s1_3 W hsh, ?_⟩
  · have hT : (Tryd.prog.globalNamed "internal/strconv.uint64pow10").bind (fun g => (Tryd.prog.globals[g]?).map (·.type)) = some 90 := by kernel_rfl
    rw [hg2, Option.bind_some, ht2] at hT
    obtain rfl := Option.some.inj hT
    have hc := Lib.cells_of_tab (n := 20) (e := 69) (k := .u64) (zs := Lib.pow10Tab) Tryd.underlying90 Tryd.underlying69 (by kernel_rfl) (by kernel_rfl) hd2
    unfold Tab Lib.TabIs
    rw [hv2, ← hc]
  · have hT : (Tryd.prog.globalNamed "strconv.ErrSyntax").bind (fun g => (Tryd.prog.globals[g]?).map (·.type)) = some 56 := by kernel_rfl
    rw [hg5, Option.bind_some, ht5] at hT
    obtain rfl := Option.some.inj hT
    obtain ⟨fu, u, v, hcs, _⟩ := iface_of_trod Tryd.underlying56 hd5
    have hg : g5 = lays172_ren.g 15 := Option.some.inj (hg5.symm.trans (show Tryd.prog.globalNamed "strconv.ErrSyntax" = some (lays172_ren.g 15) by kernel_rfl))
    refine ⟨.iface u v, ?_, Or.inr ⟨u, v, rfl⟩⟩
    rw [← hg, World.var?_cell hg5 hv5 0]
    obtain ⟨l⟩ := cs5
    simp only at hcs
    subst hcs
    rfl
set_option maxRecDepth 100000 in
theorem lifted_fnExactParseSpot (os : Os) (started : os.Started) (H : Type) (enc : TypeId × Value → H) :
    ReturnsInHanded {} Tryd.checked os 4 .any (fun w args => (Rows.fnExactParseSpotSpec.pre enc Tryd.prog Tryd.f4 [] false w args ∧ laidMetH Tryd.prog Rows.fnExactParseSpotRow.laid w) ∧ sizedMet enc Tryd.prog Tryd.f4 (OpenSpec.ofChange Rows.fnExactParseSpotSpec) false w args) (Rows.fnExactParseSpotSpec.post enc Tryd.prog Tryd.f4 false true false false) := by
  refine lift_tied (C := Tryd.checked) (X := fun w => laidMetH Tryd.prog Rows.fnExactParseSpotRow.laid w) (fun _ _ hh h => h.of_heap hh) own started (by kernel_rfl) Tryd.func4
    (ChangeSpec.witness_shaped (enc := enc) (C := Tryd.checked) (os := os) (X := fun w _ => laidMetH Tryd.prog Rows.fnExactParseSpotRow.laid w) false (World.laidAll Tryd.prog os Rows.fnExactParseSpotRow.laid) #[.string ⟨#[]⟩] 8 (World.laidAll_os _ _ _)
      (World.shaped_of_ZipB (by kernel_rfl) (by kernel_rfl)) (by kernel_rfl) (by kernel_rfl) (by kernel_rfl)
      (by rw [MakeChecks.laidMetH_plain _ _ _ (by kernel_rfl)]; exact laidMet_laidAll _ (by kernel_rfl) (by kernel_rfl))) ?_
  intro W base args ds gs before hval0 hW hL hsh
  have hval : ∀ (j : Nat) t v, Tryd.f4.params[j]? = some t → args[j]? = some v → Value.okWide Tryd.prog W .any base t v := hval0
  have hW' := hW
  obtain ⟨p, q, hA0, hV, rfl, hfz, hnd⟩ := hW
  have hA : DataW.TrodAll enc Tryd.prog W 0 (fun _ => true) true Tryd.f4.params.toList args.toList ds p := hA0
  rw [Tryd.params4] at hA hval
  obtain ⟨v0, vs0, d0, ds0, p0, q0, hargs, rfl, rfl, h0, r0⟩ := trodAll_cons hA
  obtain ⟨rfl, rfl, rfl⟩ := trodAll_nil r0
  obtain rfl : args = #[v0] := by cases args; simp_all
  obtain ⟨s, rfl, _, _, hmx⟩ := Go.ChangeMaps.open_string Tryd.underlying9 (hval 0 9 v0 rfl rfl) h0
  clear hA0 hval0
  refine (lawParseSpot s W hmx (env_of hL hsh)).mono fun e W' ⟨he, hb⟩ => ⟨_, he, ?_⟩
  exact law_post laidOut (by kernel_rfl) rfl Tryd.underlying4 rfl rfl hW' hb
theorem fnExactParseSpot_row : Rows.FnExactParseSpotSaid :=
  OpenClaim.holds_of_wide 4 Tryd.f4 rfl rfl rfl rfl rfl rfl rfl ⟨rfl, rfl, rfl, rfl, rfl⟩ rfl rfl rfl rfl rfl (by kernel_rfl) Tryd.func4 (by kernel_rfl)
    (of_decide_eq_true (by kernel_rfl)) (by unfold Func.isWrapper; first | (rw [if_pos (by decide +kernel)]; kernel_rfl) | (rw [if_neg (by decide +kernel)]; exact ⟨rfl, rfl⟩))
    (fun os started H enc _ => lifted_fnExactParseSpot os started H enc)
theorem fnExactParseSpot_holds : Rows.FnExactParseSpotCardSaid :=
  Claim7.holds_tied_plain_at .later [] [.data, .data, .data, .data, .sentinel, .sentinel, .pinned] true (true, "ac186bf940d3ece048babab4fbb90679ae044edc0c3fcc3b2c0380f0b459b88d") true
    fnExactParseSpot_row (fun _ h => by cases h) (by kernel_rfl) (fun _ h => by cases h) fnExactParseSpot_row_tie rfl ⟨rfl, rfl⟩ (by kernel_rfl) rfl
    (fun f fn hf hfn => by
      obtain rfl : f = 4 := Option.some.inj ((show Tryd.prog.funcNamed "loop.example/g00917/laws.FnExactParseSpot" = some 4 by kernel_rfl).symm.trans hf) |>.symm
      obtain rfl : fn = Tryd.f4 := (Option.some.inj (Tryd.func4.symm.trans hfn)).symm
      exact ⟨by kernel_rfl, fun j t ht => by
        rw [Tryd.params4] at ht
        have hm : t ∈ [9] := by simpa using Array.mem_of_getElem? ht
        have hall : ([9].all fun u => !Tryd.prog.wantsStandIn u) = true := by kernel_rfl
        exact (show Tryd.prog.wantsStandIn t = false by simpa using List.all_eq_true.1 hall t hm)⟩)
    (by kernel_rfl)
#print axioms fnExactParseSpot_holds
end Go.Proofs.YtkkoccllmflhfaaDoor

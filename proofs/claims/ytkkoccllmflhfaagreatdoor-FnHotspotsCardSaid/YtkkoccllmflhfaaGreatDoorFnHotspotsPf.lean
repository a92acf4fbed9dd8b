/-
  For every code hot spots are recovered from their texts, and two may be one exactly if they have a place in common and no step lies between. Conditions: none (the tables and the two errors of the library that it lists are tied to the program's text).
-/
import Derived.Test.YtkkoccllmflhfaaGreatDoorLawHot
import Derived.Test.YtkkoccllmflhfaaGreatDoorLiftTied
import Derived.Test.YtkkoccllmflhfaaGreatDoorLiftBytes
import Derived.Test.YtkkoccllmflhfaaGreatDoorCards
import Derived.LaidLaws
import Derived.Test.YtkkoccllmflhfaaGreatDoorTie
namespace Go.Proofs.YtkkoccllmflhfaaGreatDoor
open Go.ChangeShapes Go.WideShapes Go.ChangeAt Go.RowKit Go.Joins

theorem env_of {W : World} (h : laidMetH Tryz.prog Rows.fnHotspotsRow.laid W) (hsh : W.ShapedOpen Tryz.prog) : Env W := by
  rw [MakeChecks.laidMetH_plain _ _ _ (by kernel_rfl)] at h
  obtain ⟨ps, ⟨g0, t0, cs0, f0, p0, q0, hg0, ht0, hv0, hd0, ⟨g1, t1, cs1, f1, p1, q1, hg1, ht1, hv1, hd1, ⟨g2, t2, cs2, f2, p2, q2, hg2, ht2, hv2, hd2, ⟨g3, t3, cs3, f3, p3, q3, hg3, ht3, hv3, hd3, ⟨g4, t4, cs4, f4, p4, q4, hg4, ht4, hv4, hd4, ⟨g5, t5, cs5, f5, p5, q5, hg5, ht5, hv5, hd5, _⟩, _⟩, _⟩, _⟩, _⟩, _⟩, _⟩ := h
  refine ⟨?_, lays146.s1_3 W hsh, ?_⟩
  · have hT : (Tryz.prog.globalNamed "internal/strconv.uint64pow10").bind (fun g => (Tryz.prog.globals[g]?).map (·.type)) = some 108 := by kernel_rfl
    rw [hg2, Option.bind_some, ht2] at hT
    obtain rfl := Option.some.inj hT
    have hc := Lib.cells_of_tab (n := 20) (e := 52) (k := .u64) (zs := Lib.pow10Tab) Tryz.underlying108 Tryz.underlying52 (by kernel_rfl) (by kernel_rfl) hd2
    unfold Tab Lib.TabIs
    rw [hv2, ← hc]
  · have hT : (Tryz.prog.globalNamed "strconv.ErrSyntax").bind (fun g => (Tryz.prog.globals[g]?).map (·.type)) = some 75 := by kernel_rfl
    rw [hg5, Option.bind_some, ht5] at hT
    obtain rfl := Option.some.inj hT
    obtain ⟨fu, u, v, hcs, _⟩ := iface_of_trod Tryz.underlying75 hd5
    have hg : g5 = lays172_ren.g 15 := Option.some.inj (hg5.symm.trans (show Tryz.prog.globalNamed "strconv.ErrSyntax" = some (lays172_ren.g 15) by kernel_rfl))
    refine ⟨.iface u v, ?_, Or.inr ⟨u, v, rfl⟩⟩
    rw [← hg, World.var?_cell hg5 hv5 0]
    obtain ⟨l⟩ := cs5
    simp only at hcs
    subst hcs
    rfl
set_option maxRecDepth 100000 in
theorem lifted_fnHotspots (os : Os) (started : os.Started) (H : Type) (enc : TypeId × Value → H) :
    ReturnsInHanded {} Tryz.checked os 3 .any (fun w args => (Rows.fnHotspotsSpec.pre enc Tryz.prog Tryz.f3 [] false w args ∧ laidMetH Tryz.prog Rows.fnHotspotsRow.laid w) ∧ sizedMet enc Tryz.prog Tryz.f3 (OpenSpec.ofChange Rows.fnHotspotsSpec) false w args) (Rows.fnHotspotsSpec.post enc Tryz.prog Tryz.f3 false true false false) := by
  refine lift_tied (C := Tryz.checked) (X := fun w => laidMetH Tryz.prog Rows.fnHotspotsRow.laid w) (fun _ _ hh h => h.of_heap hh) own started (by kernel_rfl) Tryz.func3
    (ChangeSpec.witness_shaped (enc := enc) (C := Tryz.checked) (os := os) (X := fun w _ => laidMetH Tryz.prog Rows.fnHotspotsRow.laid w) false (World.laidAll Tryz.prog os Rows.fnHotspotsRow.laid) #[.slice none 0 0] 8 (World.laidAll_os _ _ _)
      (World.shaped_of_ZipB (by kernel_rfl) (by kernel_rfl)) (by kernel_rfl) (by kernel_rfl) (by kernel_rfl)
      (by rw [MakeChecks.laidMetH_plain _ _ _ (by kernel_rfl)]; exact laidMet_laidAll _ (by kernel_rfl) (by kernel_rfl))) ?_
  intro W base args ds gs before hval0 hW hL hsh
  have hval : ∀ (j : Nat) t v, Tryz.f3.params[j]? = some t → args[j]? = some v → Value.okWide Tryz.prog W .any base t v := hval0
  have hW' := hW
  obtain ⟨p, q, hA0, hV, rfl, hfz, hnd⟩ := hW
  have hA : DataW.TrodAll enc Tryz.prog W 0 (fun _ => true) true Tryz.f3.params.toList args.toList ds p := hA0
  rw [Tryz.params3] at hA hval
  obtain ⟨v0, vs0, d0, ds0, p0, q0, hargs, rfl, rfl, h0, r0⟩ := trodAll_cons hA
  obtain ⟨rfl, rfl, rfl⟩ := trodAll_nil r0
  obtain rfl : args = #[v0] := by cases args; simp_all
  obtain ⟨A0, n0, c0, xs0, rfl, hS0, hO0⟩ := slice_bytes Tryz.underlying22 Tryz.underlying5 (by kernel_rfl) (hval 0 22 v0 rfl rfl) h0
  clear hA0 hval0
  refine (lawHotspots A0 n0 c0 xs0 W hS0 hO0 (env_of hL hsh)).mono fun e W' ⟨he, hb⟩ => ⟨_, he, ?_⟩
  exact law_post laidOut (by kernel_rfl) rfl Tryz.underlying4 rfl rfl hW' hb
theorem fnHotspots_row : Rows.FnHotspotsSaid :=
  OpenClaim.holds_of_wide 3 Tryz.f3 rfl rfl rfl rfl rfl rfl rfl ⟨rfl, rfl, rfl, rfl, rfl⟩ rfl rfl rfl rfl rfl (by kernel_rfl) Tryz.func3 (by kernel_rfl)
    (of_decide_eq_true (by kernel_rfl)) (by unfold Func.isWrapper; first | (rw [if_pos (by decide +kernel)]; kernel_rfl) | (rw [if_neg (by decide +kernel)]; exact ⟨rfl, rfl⟩))
    (fun os started H enc _ => lifted_fnHotspots os started H enc)
theorem fnHotspots_holds : Rows.FnHotspotsCardSaid :=
  Claim7.holds_tied_plain_at .later [] [.data, .data, .data, .data, .sentinel, .sentinel, .pinned] true (true, "a495607e1a8863bef3ed5cf923885bdd828ea648b7550731674fa039b828f346") true
    fnHotspots_row (fun _ h => by cases h) (by kernel_rfl) (fun _ h => by cases h) fnHotspots_row_tie rfl ⟨rfl, rfl⟩ (by kernel_rfl) rfl
    (fun f fn hf hfn => by
      obtain rfl : f = 3 := Option.some.inj ((show Tryz.prog.funcNamed "loop.example/g00917/laws.FnHotspots" = some 3 by kernel_rfl).symm.trans hf) |>.symm
      obtain rfl : fn = Tryz.f3 := (Option.some.inj (Tryz.func3.symm.trans hfn)).symm
      exact ⟨by kernel_rfl, fun j t ht => by
        rw [Tryz.params3] at ht
        have hm : t ∈ [22] := by simpa using Array.mem_of_getElem? ht
        have hall : ([22].all fun u => !Tryz.prog.wantsStandIn u) = true := by kernel_rfl
        exact (show Tryz.prog.wantsStandIn t = false by simpa using List.all_eq_true.1 hall t hm)⟩)
    (by kernel_rfl)
#print axioms fnHotspots_holds
end Go.Proofs.YtkkoccllmflhfaaGreatDoor

/-
  The hot spot of a text, the program's way: the whole, walked.
-/
import Derived.Test.YtkkoccllmflhfaaGreatDoorParseI2
namespace Go.Proofs.YtkkoccllmflhfaaGreatDoor
open Go.RowKit

theorem replaceC (s : ByteArray) (w : World) (hs : s.size ≤ 1048576) (hE : Env w) :
    Calls Tryz.prog 27 #[.string s, .string ⟨#[44]⟩, .string ⟨#[32]⟩] w fun e w' => e = .returned (.string ⟨(Lib.replaceAll s.data.toList [44] [32]).toArray⟩) ∧ Below w.heap.size w w' := by
  obtain ⟨m, hm⟩ := hE.max
  have h1 := Lib.countB_le ⟨#[44]⟩ (by decide) s.size s (Nat.le_refl _)
  exact Any.strings_ReplaceAll lays155 extra155 s ⟨#[44]⟩ ⟨#[32]⟩ m w (by omega) hm (by decide) (by
    have e : (ByteArray.mk #[32]).size = 1 := rfl
    rw [e, Nat.mul_one]
    omega)
theorem splitC (s : ByteArray) (w : World) (hs : s.size ≤ 1048576) (hE : Env w) :
    Calls Tryz.prog 26 #[.string s, .string ⟨#[32]⟩] w fun e w' => ∃ A n, e = .returned (.slice A n n) ∧ Sl w' 1 A n n (strs (Lib.splitB ⟨#[32]⟩ 0 (Lib.countB s ⟨#[32]⟩) s)) ∧ Below w.heap.size w w' := by
  obtain ⟨m, hm⟩ := hE.max
  have h1 := Lib.countB_le ⟨#[32]⟩ (by decide) s.size s (Nat.le_refl _)
  have h2 := Lib.splitB_all ⟨#[32]⟩ (by decide) 0 _ s rfl
  refine (Any.strings_Split { lays146 with } lays146.i9 s ⟨#[32]⟩ m w (by omega) hm (by decide)).mono ?_
  rintro _ _ ⟨rfl, rfl⟩
  exact ⟨_, _, rfl, sl_lit rfl (by rw [List.length_map, h2, Nat.mul_one]) (by simp only [maxLen]; omega), bel_alloc (bel_refl w)⟩
theorem list6 {vs : List Int} (h : vs.length = 6) : ∃ a b c d e f, vs = [a, b, c, d, e, f] := by
  match vs, h with
  | [a, b, c, d, e, f], _ => exact ⟨a, b, c, d, e, f, rfl⟩
set_option maxHeartbeats 4000000 in
set_option maxRecDepth 100000 in
theorem parseSpotI (s : ByteArray) (w : World) (hs : s.size ≤ 1048576) (hE : Env w) :
    Calls Tryz.prog 9 #[.string s] w fun e w' => e = .returned (.tuple #[.agg #[.int .i64 (parseR s).1.id, .int .i64 (parseR s).1.x, .int .i64 (parseR s).1.y, .int .i64 (parseR s).1.err, .int .i64 (parseR s).1.tick, .int .i64 (parseR s).1.heat], .bool (parseR s).2]) ∧ Below w.heap.size w w' := by
  have hp0 := heap_alloc_new w (.cells #[.int .i64 0, .int .i64 0, .int .i64 0, .int .i64 0, .int .i64 0, .int .i64 0] 25)
  have hB := bel_alloc (o := .cells #[.int .i64 0, .int .i64 0, .int .i64 0, .int .i64 0, .int .i64 0, .int .i64 0] 25) (bel_refl w)
  replace hE := hE.bel hB
  go_enter Tryz.func9, Tryz.ntmps9
  go_wp2_with fail
  refine (replaceC s _ hs hE).mono ?_
  rintro _ w1 ⟨rfl, hb⟩
  replace hE := hE.bel hb
  replace hp0 := blk_belP hp0 hb
  replace hB := bel_trans hB hb
  clear hb
  go_wp2_with fail
  refine (splitC _ _ (by rw [repl_size]; exact hs) hE).mono ?_
  rintro _ w2 ⟨A2, n2, rfl, hW, hb⟩
  replace hE := hE.bel hb
  replace hp0 := blk_belP hp0 hb
  replace hB := bel_trans hB hb
  clear hb
  go_wp2_with fail
  have hl := bel_alloc (o := .cells #[.int .i64 1, .int .i64 3, .int .i64 4, .int .i64 6, .int .i64 8, .int .i64 10] 3) (bel_refl w2)
  refine (numbersIn _ _ _ (wordsI s) _ 6 6 [1, 3, 4, 6, 8, 10] _ (hW.bel hl) (sl_lit rfl rfl (by simp [maxLen])) (by omega) (hE.bel hl)).mono ?_
  rintro _ w3 ⟨A5, c5, vs, rfl, hO, hvl, hR, hb⟩
  replace hE := (hE.bel hl).bel hb
  replace hp0 := blk_belP (blk_belP hp0 hl) hb
  replace hB := bel_trans (bel_trans hB hl) hb
  obtain ⟨v0, v1, v2, v3, v4, v5, rfl⟩ := list6 hvl
  obtain ⟨g5, rfl, -, hg5⟩ := own_form hO.own (by omega)
  have d0 : w3.cell? ⟨g5, 0, none⟩ = some (.int .i64 v0) := (hO.own.cellAt 0 (by omega)).trans rfl
  have d1 : w3.cell? ⟨g5, 1, none⟩ = some (.int .i64 v1) := (hO.own.cellAt 1 (by omega)).trans rfl
  have d2 : w3.cell? ⟨g5, 2, none⟩ = some (.int .i64 v2) := (hO.own.cellAt 2 (by omega)).trans rfl
  have d3 : w3.cell? ⟨g5, 3, none⟩ = some (.int .i64 v3) := (hO.own.cellAt 3 (by omega)).trans rfl
  have d4 : w3.cell? ⟨g5, 4, none⟩ = some (.int .i64 v4) := (hO.own.cellAt 4 (by omega)).trans rfl
  have d5 : w3.cell? ⟨g5, 5, none⟩ = some (.int .i64 v5) := (hO.own.cellAt 5 (by omega)).trans rfl
  have hback : Hid (∀ x : Hotspot, goodH x = true → textH x = s → (Hotspot.mk v0 v1 v2 v3 v5 v4) = x) := fun x hg he => by
    subst he
    have hb := goodH_bd hg
    obtain ⟨e1, e2, e3, e4, e5, e6⟩ := wordsI_text hg
    have f0 := hR 0 1 _ _ (by omega) rfl e1 (by omega) (by omega) rfl
    have f1 := hR 1 3 _ _ (by omega) rfl e2 (by omega) (by omega) rfl
    have f2 := hR 2 4 _ _ (by omega) rfl e3 (by omega) (by omega) rfl
    have f3 := hR 3 6 _ _ (by omega) rfl e4 (by omega) (by omega) rfl
    have f4 := hR 4 8 _ _ (by omega) rfl e5 (by omega) (by omega) rfl
    have f5 := hR 5 10 _ _ (by omega) rfl e6 (by omega) (by omega) rfl
    simp only [List.getElem?_cons_zero, List.getElem?_cons_succ, Option.some.injEq] at f0 f1 f2 f3 f4 f5
    cases x
    simp_all
  clear hO hR hvl hb hW hl
  have hB2 := bel_refl w3
  have hpl : w.heap.size < w3.heap.size := lt_of_block hp0
  go_wp2_with fail
  (refine wp_region_planB (.free 0 (.free 1 (.free 2 (.free 3 (.free 4 (.free 5 (.free 6 (.free 7 (.free 8 (.free 9 (.free 10 (.free 11 (.free 12 (.free 13 (.free 14 (.free 15 (.free 16 (.free 17 (.free 18 (.one 19 (.one 20 (.stop)))))))))))))))))))))) (by kernel_rfl) (by kernel_rfl) ?_; have hD := bel_cells hB2; simp only [Plan.ops, List.getElem?_cons_zero, List.getElem?_cons_succ, Option.getD_some])
  (iterate 19 (refine p_free rfl (by rintro w' ⟨d, rfl⟩; obtain ⟨hDc, hDf⟩ := hD d; (go_simp; first | done | rfl)) ?_; (try simp only [Act.put, List.setIfInBounds_toArray, List.set_cons_zero, List.set_cons_succ])))
  refine p_val rfl (by (go_simp; first | done | rfl | exact ⟨rfl, rfl⟩)) ⟨⟨_, bel_alloc (bel_drew (bel_refl w3))⟩, rfl⟩ ?_
  (try simp only [Act.put, List.setIfInBounds_toArray, List.set_cons_zero, List.set_cons_succ])
  refine p_store rfl (by (go_simp; first | done | rfl)) ⟨⟨_, ?_⟩, rfl⟩ ?_
  · (repeat' (first | (refine bel_set ?_ (by simp)) | exact bel_alloc (bel_drew (bel_refl w3))))
  (try simp only [Act.put])
  refine p_stop ?_
  (try simp only [Act.put, List.setIfInBounds_toArray, List.set_cons_zero, List.set_cons_succ])
  have hq0 : ((w3.alloc (.cells #[.int .i64 v0, .int .i64 v1, .int .i64 v2, .int .i64 v3, .int .i64 v5, .int .i64 v4] 25)).drew).heap[w3.heap.size]? = some (.cells #[.int .i64 v0, .int .i64 v1, .int .i64 v2, .int .i64 v3, .int .i64 v5, .int .i64 v4] 25 (0, 0)) := heap_alloc_new w3 _
  have hb4 := bel_drew (bel_alloc (o := .cells #[.int .i64 v0, .int .i64 v1, .int .i64 v2, .int .i64 v3, .int .i64 v5, .int .i64 v4] 25) (bel_refl w3))
  replace hE := hE.bel hb4
  replace hp0 := blk_belP hp0 hb4
  replace hB := bel_trans hB hb4
  obtain ⟨w4, hw4⟩ : ∃ w4, (w3.alloc (.cells #[.int .i64 v0, .int .i64 v1, .int .i64 v2, .int .i64 v3, .int .i64 v5, .int .i64 v4] 25)).drew = w4 := ⟨_, rfl⟩
  obtain ⟨q, hq⟩ : ∃ q, w3.heap.size = q := ⟨_, rfl⟩
  obtain ⟨p, hp⟩ : ∃ p, w.heap.size = p := ⟨_, rfl⟩
  have hwq : w.heap.size ≤ q := by rw [← hq]; have := hB2.size; have := lt_of_block hp0; have h9 : w.heap.size < w3.heap.size := hpl; omega
  have hwp : w.heap.size ≤ p := by omega
  rw [hw4] at hq0 hE hp0 hB ⊢
  rw [hq] at hq0 ⊢
  rw [hp] at hp0 ⊢
  clear hw4 hq hb4 d0 d1 d2 d3 d4 d5 hg5 hB2 hpl
  have hI := fun w hT => spotTextI ((Hotspot.mk v0 v1 v2 v3 v5 v4)) w hT
  rcases hg : goodH ((Hotspot.mk v0 v1 v2 v3 v5 v4)) with _ | _
  · have hR : Hid (parseR s = (zeroH, false)) := parseR_no fun x hx he => by
      have := hback.out x hx he
      rw [this, hx] at hg
      cases hg
    have hT : textR ((Hotspot.mk v0 v1 v2 v3 v5 v4)) = (⟨#[]⟩, false) := by simp [textR, hg]
    rw [hT] at hI
    clear hT hg
    obtain ⟨⟨c0, c1, c2, c3, c4, c5'⟩, cz⟩ := cells6P hq0
    go_wp2_with fail
    refine (hI _ hE.tab).mono ?_
    rintro _ w5 ⟨rfl, hb⟩
    replace hp0 := blk_belP hp0 hb
    replace hB := bel_trans hB hb
    clear hb hI c0 c1 c2 c3 c4 c5' cz hq0
    obtain ⟨⟨k0, k1, k2, k3, k4, k5⟩, kz⟩ := cells6P hp0
    clear hp0
    go_wp2_with fail
    refine bodyPost_ret (v := .tuple #[.agg #[.int .i64 0, .int .i64 0, .int .i64 0, .int .i64 0, .int .i64 0, .int .i64 0], .bool false]) (by simp [results, Tryz.results9, go_sem, *]) rfl ⟨by first | (rw [hR.out]; done) | (rw [hR.out]; rfl), ?_⟩
    (repeat' (first | (with_reducible assumption) | (refine bel_set ?_ (by with_reducible assumption))))
  · have hT : textR ((Hotspot.mk v0 v1 v2 v3 v5 v4)) = (textH ((Hotspot.mk v0 v1 v2 v3 v5 v4)), true) := by simp [textR, hg]
    rw [hT] at hI
    clear hT
    by_cases he : textH ((Hotspot.mk v0 v1 v2 v3 v5 v4)) = s
    · have hR : Hid (parseR s = ((Hotspot.mk v0 v1 v2 v3 v5 v4), true)) := parseR_yes hg he
      rw [he] at hI
      clear hg he
      obtain ⟨⟨c0, c1, c2, c3, c4, c5'⟩, cz⟩ := cells6P hq0
      go_wp2_with fail
      refine (hI _ hE.tab).mono ?_
      rintro _ w5 ⟨rfl, hb⟩
      replace hp0 := blk_belP hp0 hb
      replace hq0 := blk_belP hq0 hb
      replace hB := bel_trans hB hb
      clear hb hI c0 c1 c2 c3 c4 c5' cz
      obtain ⟨⟨k0, k1, k2, k3, k4, k5⟩, kz⟩ := cells6P hp0
      obtain ⟨⟨c0, c1, c2, c3, c4, c5'⟩, cz⟩ := cells6P hq0
      clear hp0 hq0
      go_wp2_with fail
      refine bodyPost_ret (v := .tuple #[.agg #[.int .i64 v0, .int .i64 v1, .int .i64 v2, .int .i64 v3, .int .i64 v5, .int .i64 v4], .bool true]) (by simp [results, Tryz.results9, go_sem, *]) rfl ⟨by first | (rw [hR.out]; done) | (rw [hR.out]; rfl), ?_⟩
      (repeat' (first | (with_reducible assumption) | (refine bel_set ?_ (by with_reducible assumption))))
    · have hR : Hid (parseR s = (zeroH, false)) := parseR_no fun x hx h1 => by
        have := hback.out x hx h1
        rw [this] at he
        exact he h1
      obtain ⟨T, hT⟩ : ∃ T, textH ((Hotspot.mk v0 v1 v2 v3 v5 v4)) = T := ⟨_, rfl⟩
      rw [hT] at hI he
      have hne : (T.toList == s.toList) = false := by rw [bl_beq]; exact decide_eq_false he
      clear hg he hT
      obtain ⟨⟨c0, c1, c2, c3, c4, c5'⟩, cz⟩ := cells6P hq0
      go_wp2_with fail
      refine (hI _ hE.tab).mono ?_
      rintro _ w5 ⟨rfl, hb⟩
      replace hp0 := blk_belP hp0 hb
      replace hq0 := blk_belP hq0 hb
      replace hB := bel_trans hB hb
      clear hb hI c0 c1 c2 c3 c4 c5' cz
      obtain ⟨⟨k0, k1, k2, k3, k4, k5⟩, kz⟩ := cells6P hp0
      obtain ⟨⟨c0, c1, c2, c3, c4, c5'⟩, cz⟩ := cells6P hq0
      clear hp0 hq0
      go_wp2_with fail
      refine bodyPost_ret (v := .tuple #[.agg #[.int .i64 0, .int .i64 0, .int .i64 0, .int .i64 0, .int .i64 0, .int .i64 0], .bool false]) (by simp [results, Tryz.results9, go_sem, *]) rfl ⟨by first | (rw [hR.out]; done) | (rw [hR.out]; rfl), ?_⟩
      (repeat' (first | (with_reducible assumption) | (refine bel_set ?_ (by with_reducible assumption))))
end Go.Proofs.YtkkoccllmflhfaaGreatDoor

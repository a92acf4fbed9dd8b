/-
  The hot spot of a text, the reference's way, walked.
-/
import Derived.Test.YtkkoccllmflhfaaGreatDoorParseS2
import Derived.Test.YtkkoccllmflhfaaGreatDoorParseI3
namespace Go.Proofs.YtkkoccllmflhfaaGreatDoor
open Go.RowKit

theorem l1SplitP (s : ByteArray) (c : UInt8) (k : Int) (w : World) (hk : (c.toNat : Int) = k) (hs : s.size ≤ 1048576) :
    Calls Tryz.prog 33 #[.string s, .int .u8 k] w fun e w' => ∃ A' n' c' ws, e = .returned (.slice A' n' c') ∧ Own w.heap.size w'.heap.size w' 9 1 A' n' c' (strs ws) ∧ ws.map (fun b => b.data.toList) = splitA c [] s.data.toList ∧ n' ≤ s.size + 1 ∧ Below w.heap.size w w' := by
  subst hk
  exact l1Split s c w hs
theorem splitA_len {c : UInt8} : ∀ (L acc : List UInt8), ∀ x ∈ splitA c acc L, x.length ≤ acc.length + L.length
  | [], acc => fun x hx => by
    simp only [splitA, List.mem_singleton] at hx
    subst hx
    simp
  | b :: r, acc => fun x hx => by
    rw [splitA] at hx
    split at hx
    · rw [List.mem_cons] at hx
      rcases hx with rfl | hx
      · simp
      · have := splitA_len r [] x hx
        simp only [List.length_nil, List.length_cons] at this ⊢
        omega
    · have := splitA_len r (acc ++ [b]) x hx
      simp only [List.length_append, List.length_cons, List.length_nil] at this ⊢
      omega
theorem piece_size {s : ByteArray} {c : UInt8} {ws : List ByteArray} (h : ws.map (fun b => b.data.toList) = splitA c [] s.data.toList) {i : Nat} {a : ByteArray} (ha : ws[i]? = some a) : a.size ≤ s.size := by
  have hm : a.data.toList ∈ splitA c [] s.data.toList := by
    rw [← h]
    exact List.mem_map_of_mem (List.mem_of_getElem? ha)
  have := splitA_len _ _ _ hm
  rw [List.length_nil, Array.length_toList, Array.length_toList] at this
  have e1 : a.size = a.data.size := rfl
  have e2 : s.size = s.data.size := rfl
  omega
theorem textH_size {x : Hotspot} (hg : goodH x = true) : (textH x).size ≤ 70 := by
  have hb := goodH_bd hg
  have h0 := numB_len (n := x.id) (by omega) (k := 3) (by omega) (by omega)
  have h1 := numB_len (n := x.x) (by omega) (k := 4) (by omega) (by omega)
  have h2 := numB_len (n := x.y) (by omega) (k := 4) (by omega) (by omega)
  have h3 := numB_len (n := x.err) (by omega) (k := 4) (by omega) (by omega)
  have h4 := numB_len (n := x.heat) (by omega) (k := 4) (by omega) (by omega)
  have h5 := numB_len (n := x.tick) (by omega) (k := 4) (by omega) (by omega)
  unfold textH txt
  simp only [ByteArray.size_append]
  have e1 : (ByteArray.mk #[115, 112, 111, 116, 32]).size = 5 := rfl
  have e2 : (ByteArray.mk #[32, 97, 116, 32]).size = 4 := rfl
  have e3 : (ByteArray.mk #[44]).size = 1 := rfl
  have e4 : (ByteArray.mk #[32, 119, 105, 116, 104, 105, 110, 32]).size = 8 := rfl
  have e5 : (ByteArray.mk #[32, 104, 101, 97, 116, 32]).size = 6 := rfl
  have e6 : (ByteArray.mk #[32, 115, 101, 101, 110, 32]).size = 6 := rfl
  omega
theorem Sl.strAt {w : World} {b o n c : Nat} {xs : List ByteArray} (h : Sl w 1 (some ⟨b, o, none⟩) n c (strs xs)) {i : Nat} {x : ByteArray} (hx : xs[i]? = some x) :
    b < w.heap.size ∧ w.cell? ⟨b, o + i, none⟩ = some (.string x) := by
  obtain ⟨b', o', e, hh⟩ := h.str_at hx
  cases e
  exact hh
/-- The words of a hot spot's text, as the reference cuts it. -/
theorem wordsS_text {x : Hotspot} (hg : goodH x = true) {ws : List ByteArray} (h : ws.map (fun b => b.data.toList) = splitA 32 [] (textH x).data.toList) : ws.length = 10 ∧ ws[1]? = some (numB x.id) ∧ (∃ a, ws[3]? = some a ∧ a.data.toList = dg x.x ++ 44 :: dg x.y) ∧ ws[5]? = some (numB x.err) ∧ ws[7]? = some (numB x.heat) ∧ ws[9]? = some (numB x.tick) := by
  rw [textH_data hg, words32] at h
  have hb := goodH_bd hg
  have hl : ws.length = 10 := by have := congrArg List.length h; simpa using this
  have key : ∀ (i : Nat) (n : Int), 0 ≤ n → ([wSpot, dg x.id, wAt, dg x.x ++ 44 :: dg x.y, wWithin, dg x.err, wHeat, dg x.heat, wSeen, dg x.tick] : List (List UInt8))[i]? = some (dg n) → ws[i]? = some (numB n) := fun i n h0 hi => by
    rw [← h, List.getElem?_map] at hi
    rcases hw : ws[i]? with _ | b
    · rw [hw] at hi; cases hi
    · rw [hw] at hi
      simp only [Option.map_some, Option.some.injEq] at hi
      rw [← numB_dg n h0] at hi
      exact congrArg some (ByteArray.ext (Array.ext' hi))
  obtain ⟨a, ha⟩ : ∃ a, ws[3]? = some a := get_of_lt (by omega)
  have h3 := congrArg (fun l => l[3]?) h
  simp only [List.getElem?_map, ha, Option.map_some, List.getElem?_cons_succ, List.getElem?_cons_zero, Option.some.injEq] at h3
  exact ⟨hl, key 1 _ (by omega) rfl, ⟨a, ha, h3⟩, key 5 _ (by omega) rfl, key 7 _ (by omega) rfl, key 9 _ (by omega) rfl⟩
theorem placeS_text {x : Hotspot} (hg : goodH x = true) {a : ByteArray} (ha : a.data.toList = dg x.x ++ 44 :: dg x.y) {ws : List ByteArray} (h : ws.map (fun b => b.data.toList) = splitA 44 [] a.data.toList) : ws.length = 2 ∧ ws[0]? = some (numB x.x) ∧ ws[1]? = some (numB x.y) := by
  rw [ha, words44] at h
  have hb := goodH_bd hg
  have hl : ws.length = 2 := by have := congrArg List.length h; simpa using this
  have key : ∀ (i : Nat) (n : Int), 0 ≤ n → ([dg x.x, dg x.y] : List (List UInt8))[i]? = some (dg n) → ws[i]? = some (numB n) := fun i n h0 hi => by
    rw [← h, List.getElem?_map] at hi
    rcases hw : ws[i]? with _ | b
    · rw [hw] at hi; cases hi
    · rw [hw] at hi
      simp only [Option.map_some, Option.some.injEq] at hi
      rw [← numB_dg n h0] at hi
      exact congrArg some (ByteArray.ext (Array.ext' hi))
  exact ⟨hl, key 0 _ (by omega) rfl, key 1 _ (by omega) rfl⟩
set_option maxHeartbeats 8000000 in
set_option maxRecDepth 100000 in
theorem parseSpotS (s : ByteArray) (w : World) (hs : s.size ≤ 1048576) :
    Calls Tryz.prog 11 #[.string s] w fun e w' => e = .returned (.tuple #[.agg #[.int .i64 (parseR s).1.id, .int .i64 (parseR s).1.x, .int .i64 (parseR s).1.y, .int .i64 (parseR s).1.err, .int .i64 (parseR s).1.tick, .int .i64 (parseR s).1.heat], .bool (parseR s).2]) ∧ Below w.heap.size w w' := by
  have hp0 := heap_alloc_new w (.cells #[.int .i64 0, .int .i64 0, .int .i64 0, .int .i64 0, .int .i64 0, .int .i64 0] 25)
  have hB := bel_alloc (o := .cells #[.int .i64 0, .int .i64 0, .int .i64 0, .int .i64 0, .int .i64 0, .int .i64 0] 25) (bel_refl w)
  obtain ⟨p, hp⟩ : ∃ p, w.heap.size = p := ⟨_, rfl⟩
  have hwp : w.heap.size ≤ p := by omega
  rw [hp] at hp0
  replace hp := hid hp
  go_enter Tryz.func11, Tryz.ntmps11
  go_wp2_with fail
  rw [hp.out]
  refine (l1SplitP s 32 _ _ rfl hs).mono ?_
  rintro _ w1 ⟨A3, n3, c3, ws, rfl, hO, hws, hn3, hb⟩
  replace hp0 := blk_belP hp0 hb
  replace hB := bel_trans hB hb
  have hW := hO.sl
  have hwl := hid hW.str_len
  have hn3b : n3 ≤ 1048577 := by omega
  clear hO hb hn3
  by_cases h70 : s.size ≤ 70
  rotate_left
  · have hi : (70 : Int) < (s.size : Int) := by omega
    have hR : Hid (parseR s = (zeroH, false)) := parseR_no fun x hg he => by
      have := textH_size hg
      rw [he] at this
      omega
    clear h70
    (obtain ⟨⟨k0, k1, k2, k3, k4, k5⟩, kz⟩ := cells6P hp0; clear hp0; go_wp2_with fail; refine bodyPost_ret (v := .tuple #[.agg #[.int .i64 0, .int .i64 0, .int .i64 0, .int .i64 0, .int .i64 0, .int .i64 0], .bool false]) (by simp [results, Tryz.results11, go_sem, *]) rfl ⟨by first | (rw [hR.out]; done) | (rw [hR.out]; rfl), ?_⟩; (repeat' (first | (with_reducible assumption) | (refine bel_set ?_ (by with_reducible assumption)))))
  have h70i : (s.size : Int) ≤ 70 := by omega
  by_cases hten : n3 = 10
  rotate_left
  · have hne : ((n3 : Int) != 10) = true := by rw [bne_iff_ne]; omega
    have hR : Hid (parseR s = (zeroH, false)) := parseR_no fun x hg he => by
      subst he
      have := (wordsS_text hg hws).1
      rw [hwl.out] at this
      omega
    clear hten
    (obtain ⟨⟨k0, k1, k2, k3, k4, k5⟩, kz⟩ := cells6P hp0; clear hp0; go_wp2_with fail; refine bodyPost_ret (v := .tuple #[.agg #[.int .i64 0, .int .i64 0, .int .i64 0, .int .i64 0, .int .i64 0, .int .i64 0], .bool false]) (by simp [results, Tryz.results11, go_sem, *]) rfl ⟨by first | (rw [hR.out]; done) | (rw [hR.out]; rfl), ?_⟩; (repeat' (first | (with_reducible assumption) | (refine bel_set ?_ (by with_reducible assumption)))))
  subst hten
  obtain ⟨a1, e1⟩ : ∃ a, ws[1]? = some a := get_of_lt (by rw [hwl.out]; omega)
  obtain ⟨a3, e3⟩ : ∃ a, ws[3]? = some a := get_of_lt (by rw [hwl.out]; omega)
  obtain ⟨a5, e5⟩ : ∃ a, ws[5]? = some a := get_of_lt (by rw [hwl.out]; omega)
  obtain ⟨a7, e7⟩ : ∃ a, ws[7]? = some a := get_of_lt (by rw [hwl.out]; omega)
  obtain ⟨a9, e9⟩ : ∃ a, ws[9]? = some a := get_of_lt (by rw [hwl.out]; omega)
  obtain ⟨b3, o3, rfl, hb3, s3⟩ := hW.str_at e3
  have hsz1 := piece_size hws e1
  have hsz3 := piece_size hws e3
  have hsz5 := piece_size hws e5
  have hsz7 := piece_size hws e7
  have hsz9 := piece_size hws e9
  replace e1 := hid e1
  replace e3 := hid e3
  replace e5 := hid e5
  replace e7 := hid e7
  replace e9 := hid e9
  replace hws := hid hws
  go_wp2_with fail
  refine (l1SplitP a3 44 _ _ rfl (by omega)).mono ?_
  rintro _ w2 ⟨A4, n4, c4, ps, rfl, hO, hps, hn4, hb⟩
  replace hp0 := blk_belP hp0 hb
  replace hB := bel_trans hB hb
  replace hW := hW.bel hb
  have hP := hO.sl
  have hpl := hid hP.str_len
  have hn4b : n4 ≤ 1048577 := by omega
  clear hO hb hn4 s3 hb3
  by_cases htwo : n4 = 2
  rotate_left
  · have hne : ((n4 : Int) == 2) = false := by rw [beq_eq_false_iff_ne]; omega
    have hR : Hid (parseR s = (zeroH, false)) := parseR_no fun x hg he => by
      subst he
      obtain ⟨-, -, ⟨a, ha, had⟩, -⟩ := wordsS_text hg hws.out
      rw [e3.out] at ha
      cases ha
      have := (placeS_text hg had hps).1
      rw [hpl.out] at this
      omega
    clear htwo
    (obtain ⟨⟨k0, k1, k2, k3, k4, k5⟩, kz⟩ := cells6P hp0; clear hp0; go_wp2_with fail; refine bodyPost_ret (v := .tuple #[.agg #[.int .i64 0, .int .i64 0, .int .i64 0, .int .i64 0, .int .i64 0, .int .i64 0], .bool false]) (by simp [results, Tryz.results11, go_sem, *]) rfl ⟨by first | (rw [hR.out]; done) | (rw [hR.out]; rfl), ?_⟩; (repeat' (first | (with_reducible assumption) | (refine bel_set ?_ (by with_reducible assumption)))))
  subst htwo
  obtain ⟨y0, f0⟩ : ∃ a, ps[0]? = some a := get_of_lt (by rw [hpl.out]; omega)
  obtain ⟨y1, f1⟩ : ∃ a, ps[1]? = some a := get_of_lt (by rw [hpl.out]; omega)
  obtain ⟨b4, o4, rfl, hb4, s4⟩ := hP.str_at f0
  have hsy0 := piece_size hps f0
  have hsy1 := piece_size hps f1
  replace f0 := hid f0
  replace f1 := hid f1
  replace hps := hid hps
  clear s4 hb4
  have hq0 := heap_alloc_new w2 (.cells #[.int .i64 0, .int .i64 0, .int .i64 0, .int .i64 0, .int .i64 0, .int .i64 0] 25)
  have hB5 := bel_alloc (o := .cells #[.int .i64 0, .int .i64 0, .int .i64 0, .int .i64 0, .int .i64 0, .int .i64 0] 25) (bel_refl w2)
  have hpq : p < w2.heap.size := lt_of_block hp0
  have hE : Hid (∃ q, w2.heap.size = q) := ⟨_, rfl⟩
  obtain ⟨hb3, s1⟩ := (hW.bel hB5).strAt e1.out
  go_wp2_with fail
  have hr1 := fun w => l1Read a1 w (by omega)
  have hr5 := fun w => l1Read a5 w (by omega)
  have hr7 := fun w => l1Read a7 w (by omega)
  have hr9 := fun w => l1Read a9 w (by omega)
  have hry0 := fun w => l1Read y0 w (by omega)
  have hry1 := fun w => l1Read y1 w (by omega)
  obtain ⟨q, hq⟩ : ∃ q, w2.heap.size = q := ⟨_, rfl⟩
  have hwq : w.heap.size ≤ q := by omega
  have hqq : w2.heap.size ≤ q := by omega
  obtain ⟨x0, hx0⟩ : ∃ x0, w2.alloc (.cells #[.int .i64 0, .int .i64 0, .int .i64 0, .int .i64 0, .int .i64 0, .int .i64 0] 25) = x0 := ⟨_, rfl⟩
  rw [hx0] at hB5 hq0 ⊢
  rw [hq] at hq0 hpq
  replace hq := hid hq
  (try rw [hq.out])
  clear hx0 hE s1 hb3 hsz1 hsz3 hsz5 hsz7 hsz9 hsy0 hsy1
  refine (hr1 _).mono ?_
  rintro _ w3 ⟨⟨v1, kk1, rfl, hv1⟩, hb⟩
  replace hv1 := hid hv1
  replace hq0 := blk_belP hq0 hb
  replace hB5 := bel_trans hB5 hb
  clear hb hr1
  have hqs := heap_setCell_same _ q 0 _ _ (.int .i64 v1) hq0
  have hBs := bel_set (o := 0) (s := none) (v := .int .i64 v1) hB5 hqq
  obtain ⟨⟨c0, c1, c2, c3', c4', c5⟩, cz⟩ := cells6P hq0
  obtain ⟨hb3, s1⟩ := (hP.bel hBs).strAt f0.out
  rw [Nat.add_zero] at s1
  clear hq0
  go_wp2_with fail
  obtain ⟨x1, hx⟩ : ∃ x, w3.setCell ⟨q, 0, none⟩ (.int .i64 v1) = x := ⟨_, rfl⟩
  rw [hx] at hqs hBs ⊢
  have hq0 := hqs
  (try simp only [List.setIfInBounds_toArray, List.set_cons_zero, List.set_cons_succ] at hq0)
  replace hB5 := hBs
  clear hx hqs hBs s1 hb3 c0 c1 c2 c3' c4' c5 cz
  refine (hry0 _).mono ?_
  rintro _ w4 ⟨⟨v2, kk2, rfl, hv2⟩, hb⟩
  replace hv2 := hid hv2
  replace hq0 := blk_belP hq0 hb
  replace hB5 := bel_trans hB5 hb
  clear hb hry0
  have hqs := heap_setCell_same _ q 1 _ _ (.int .i64 v2) hq0
  have hBs := bel_set (o := 1) (s := none) (v := .int .i64 v2) hB5 hqq
  obtain ⟨⟨c0, c1, c2, c3', c4', c5⟩, cz⟩ := cells6P hq0
  obtain ⟨hb3, s1⟩ := (hP.bel hBs).strAt f1.out
  clear hq0
  go_wp2_with fail
  obtain ⟨x2, hx⟩ : ∃ x, w4.setCell ⟨q, 1, none⟩ (.int .i64 v2) = x := ⟨_, rfl⟩
  rw [hx] at hqs hBs ⊢
  have hq0 := hqs
  (try simp only [List.setIfInBounds_toArray, List.set_cons_zero, List.set_cons_succ] at hq0)
  replace hB5 := hBs
  clear hx hqs hBs s1 hb3 c0 c1 c2 c3' c4' c5 cz
  refine (hry1 _).mono ?_
  rintro _ w5 ⟨⟨v3, kk3, rfl, hv3⟩, hb⟩
  replace hv3 := hid hv3
  replace hq0 := blk_belP hq0 hb
  replace hB5 := bel_trans hB5 hb
  clear hb hry1
  have hqs := heap_setCell_same _ q 2 _ _ (.int .i64 v3) hq0
  have hBs := bel_set (o := 2) (s := none) (v := .int .i64 v3) hB5 hqq
  obtain ⟨⟨c0, c1, c2, c3', c4', c5⟩, cz⟩ := cells6P hq0
  obtain ⟨hb3, s1⟩ := (hW.bel hBs).strAt e5.out
  clear hq0
  go_wp2_with fail
  obtain ⟨x3, hx⟩ : ∃ x, w5.setCell ⟨q, 2, none⟩ (.int .i64 v3) = x := ⟨_, rfl⟩
  rw [hx] at hqs hBs ⊢
  have hq0 := hqs
  (try simp only [List.setIfInBounds_toArray, List.set_cons_zero, List.set_cons_succ] at hq0)
  replace hB5 := hBs
  clear hx hqs hBs s1 hb3 c0 c1 c2 c3' c4' c5 cz
  refine (hr5 _).mono ?_
  rintro _ w6 ⟨⟨v4, kk4, rfl, hv4⟩, hb⟩
  replace hv4 := hid hv4
  replace hq0 := blk_belP hq0 hb
  replace hB5 := bel_trans hB5 hb
  clear hb hr5
  have hqs := heap_setCell_same _ q 3 _ _ (.int .i64 v4) hq0
  have hBs := bel_set (o := 3) (s := none) (v := .int .i64 v4) hB5 hqq
  obtain ⟨⟨c0, c1, c2, c3', c4', c5⟩, cz⟩ := cells6P hq0
  obtain ⟨hb3, s1⟩ := (hW.bel hBs).strAt e7.out
  clear hq0
  go_wp2_with fail
  obtain ⟨x4, hx⟩ : ∃ x, w6.setCell ⟨q, 3, none⟩ (.int .i64 v4) = x := ⟨_, rfl⟩
  rw [hx] at hqs hBs ⊢
  have hq0 := hqs
  (try simp only [List.setIfInBounds_toArray, List.set_cons_zero, List.set_cons_succ] at hq0)
  replace hB5 := hBs
  clear hx hqs hBs s1 hb3 c0 c1 c2 c3' c4' c5 cz
  refine (hr7 _).mono ?_
  rintro _ w7 ⟨⟨v5, kk5, rfl, hv5⟩, hb⟩
  replace hv5 := hid hv5
  replace hq0 := blk_belP hq0 hb
  replace hB5 := bel_trans hB5 hb
  clear hb hr7
  have hqs := heap_setCell_same _ q 5 _ _ (.int .i64 v5) hq0
  have hBs := bel_set (o := 5) (s := none) (v := .int .i64 v5) hB5 hqq
  obtain ⟨⟨c0, c1, c2, c3', c4', c5⟩, cz⟩ := cells6P hq0
  obtain ⟨hb3, s1⟩ := (hW.bel hBs).strAt e9.out
  clear hq0
  go_wp2_with fail
  obtain ⟨x5, hx⟩ : ∃ x, w7.setCell ⟨q, 5, none⟩ (.int .i64 v5) = x := ⟨_, rfl⟩
  rw [hx] at hqs hBs ⊢
  have hq0 := hqs
  (try simp only [List.setIfInBounds_toArray, List.set_cons_zero, List.set_cons_succ] at hq0)
  replace hB5 := hBs
  clear hx hqs hBs s1 hb3 c0 c1 c2 c3' c4' c5 cz
  refine (hr9 _).mono ?_
  rintro _ w8 ⟨⟨v6, kk6, rfl, hv6⟩, hb⟩
  replace hv6 := hid hv6
  replace hq0 := blk_belP hq0 hb
  replace hB5 := bel_trans hB5 hb
  clear hb hr9
  have hqs := heap_setCell_same _ q 4 _ _ (.int .i64 v6) hq0
  have hBs := bel_set (o := 4) (s := none) (v := .int .i64 v6) hB5 hqq
  obtain ⟨⟨c0, c1, c2, c3', c4', c5⟩, cz⟩ := cells6P hq0
  have hback : Hid (∀ x : Hotspot, goodH x = true → textH x = s → (Hotspot.mk v1 v2 v3 v4 v6 v5) = x) := fun x hg he => by
    subst he
    have hb := goodH_bd hg
    obtain ⟨-, g1, ⟨a, ha, had⟩, g5, g7, g9⟩ := wordsS_text hg hws.out
    rw [e3.out] at ha
    cases ha
    obtain ⟨-, t0, t1⟩ := placeS_text hg had hps.out
    rw [e1.out] at g1
    rw [e5.out] at g5
    rw [e7.out] at g7
    rw [e9.out] at g9
    rw [f0.out] at t0
    rw [f1.out] at t1
    have i1 := hv1.out _ (by omega) (by omega) (Option.some.inj g1)
    have i2 := hv2.out _ (by omega) (by omega) (Option.some.inj t0)
    have i3 := hv3.out _ (by omega) (by omega) (Option.some.inj t1)
    have i4 := hv4.out _ (by omega) (by omega) (Option.some.inj g5)
    have i5 := hv5.out _ (by omega) (by omega) (Option.some.inj g7)
    have i6 := hv6.out _ (by omega) (by omega) (Option.some.inj g9)
    cases x
    simp_all
  clear hq0
  have hG := fun w => l7One ((Hotspot.mk v1 v2 v3 v4 v6 v5)) w
  go_wp2_with fail
  obtain ⟨x6, hx⟩ : ∃ x, w8.setCell ⟨q, 4, none⟩ (.int .i64 v6) = x := ⟨_, rfl⟩
  rw [hx] at hqs hBs ⊢
  have hq0 := hqs
  (try simp only [List.setIfInBounds_toArray, List.set_cons_zero, List.set_cons_succ] at hq0)
  replace hB5 := hBs
  clear hx hqs hBs c0 c1 c2 c3' c4' c5 cz hv1 hv2 hv3 hv4 hv5 hv6 e1 e3 e5 e7 e9 f0 f1 hws hps hW hP hwl hpl
  refine (hG _).mono ?_
  rintro _ w9 ⟨rfl, hb⟩
  replace hq0 := blk_belP hq0 hb
  replace hB5 := bel_trans hB5 hb
  clear hb hG
  rcases hg : goodH ((Hotspot.mk v1 v2 v3 v4 v6 v5)) with _ | _
  · have hR : Hid (parseR s = (zeroH, false)) := parseR_no fun x hx he => by
      have := hback.out x hx he
      rw [this, hx] at hg
      cases hg
    replace hp0 := blk_belP hp0 hB5
    replace hB := bel_trans hB hB5
    obtain ⟨⟨k0, k1, k2, k3, k4, k5⟩, kz⟩ := cells6P hp0
    obtain ⟨⟨c0, c1, c2, c3', c4', c5⟩, cz⟩ := cells6P hq0
    clear hp0 hq0
    go_wp2_with fail
    refine bodyPost_ret (v := .tuple #[.agg #[.int .i64 0, .int .i64 0, .int .i64 0, .int .i64 0, .int .i64 0, .int .i64 0], .bool false]) (by simp [results, Tryz.results11, go_sem, *]) rfl ⟨by first | (rw [hR.out]; done) | (rw [hR.out]; rfl), ?_⟩
    (repeat' (first | (with_reducible assumption) | (refine bel_set ?_ (by with_reducible assumption))))
  · have hX := fun w => l7Text ((Hotspot.mk v1 v2 v3 v4 v6 v5)) w hg
    by_cases he : textH ((Hotspot.mk v1 v2 v3 v4 v6 v5)) = s
    · have hR : Hid (parseR s = ((Hotspot.mk v1 v2 v3 v4 v6 v5), true)) := parseR_yes hg he
      rw [he] at hX
      clear he
      obtain ⟨⟨c0, c1, c2, c3', c4', c5⟩, cz⟩ := cells6P hq0
      have hq9 := hq0
      clear hq0
      go_wp2_with fail
      refine (hX _).mono ?_
      rintro _ w10 ⟨rfl, hb⟩
      have hq0 := blk_belP hq9 hb
      replace hB5 := bel_trans hB5 hb
      clear hb hq9 c0 c1 c2 c3' c4' c5 cz
      replace hp0 := blk_belP hp0 hB5
      replace hB := bel_trans hB hB5
      obtain ⟨⟨k0, k1, k2, k3, k4, k5⟩, kz⟩ := cells6P hp0
      obtain ⟨⟨c0, c1, c2, c3', c4', c5⟩, cz⟩ := cells6P hq0
      clear hp0 hq0
      go_wp2_with fail
      refine bodyPost_ret (v := .tuple #[.agg #[.int .i64 v1, .int .i64 v2, .int .i64 v3, .int .i64 v4, .int .i64 v6, .int .i64 v5], .bool true]) (by simp [results, Tryz.results11, go_sem, *]) rfl ⟨by first | (rw [hR.out]; done) | (rw [hR.out]; rfl), ?_⟩
      (repeat' (first | (with_reducible assumption) | (refine bel_set ?_ (by with_reducible assumption))))
    · have hR : Hid (parseR s = (zeroH, false)) := parseR_no fun x hx h1 => by
        have := hback.out x hx h1
        rw [this] at he
        exact he h1
      obtain ⟨T, hT⟩ : ∃ T, textH ((Hotspot.mk v1 v2 v3 v4 v6 v5)) = T := ⟨_, rfl⟩
      rw [hT] at hX he
      have hne : (T.toList == s.toList) = false := by rw [bl_beq]; exact decide_eq_false he
      clear he hT
      obtain ⟨⟨c0, c1, c2, c3', c4', c5⟩, cz⟩ := cells6P hq0
      have hq9 := hq0
      clear hq0
      go_wp2_with fail
      refine (hX _).mono ?_
      rintro _ w10 ⟨rfl, hb⟩
      have hq0 := blk_belP hq9 hb
      replace hB5 := bel_trans hB5 hb
      clear hb hq9 c0 c1 c2 c3' c4' c5 cz
      replace hp0 := blk_belP hp0 hB5
      replace hB := bel_trans hB hB5
      obtain ⟨⟨k0, k1, k2, k3, k4, k5⟩, kz⟩ := cells6P hp0
      obtain ⟨⟨c0, c1, c2, c3', c4', c5⟩, cz⟩ := cells6P hq0
      clear hp0 hq0
      go_wp2_with fail
      refine bodyPost_ret (v := .tuple #[.agg #[.int .i64 0, .int .i64 0, .int .i64 0, .int .i64 0, .int .i64 0, .int .i64 0], .bool false]) (by simp [results, Tryz.results11, go_sem, *]) rfl ⟨by first | (rw [hR.out]; done) | (rw [hR.out]; rfl), ?_⟩
      (repeat' (first | (with_reducible assumption) | (refine bel_set ?_ (by with_reducible assumption))))
end Go.Proofs.YtkkoccllmflhfaaGreatDoor

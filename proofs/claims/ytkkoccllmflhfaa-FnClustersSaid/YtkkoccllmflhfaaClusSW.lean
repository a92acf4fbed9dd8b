/-
  The clusters of hot spots, the reference's way: the walk.
-/
import Derived.Test.YtkkoccllmflhfaaClusS
namespace Go.Proofs.Ytkkoccllmflhfaa
open Go.RowKit

theorem l1Has (A : Option Addr) (n c : Nat) (xs : List Int) (v : Int) (w : World) (hS : Sl w 1 A n c (ints xs)) (hn : n ≤ 1048576) :
    Calls Try.prog 58 #[.slice A n c, .int .i64 v] w fun e w' => e = .returned (.bool (xs.any fun x => x == v)) ∧ w = w' := by
  have hlh := hid hS.int_len
  go_enter Try.func58, Try.ntmps58
  go_wp2
  go_loopw [5] (fun u wr => ∃ i : Nat, i ≤ n ∧ u = .int .i64 i ∧ (Hid (∀ r, r < i → ∀ u, xs[r]? = some u → (u == v) = false)) ∧ w = wr) (fun v _ => n - (intOf v).toNat)
  case atStart => exact ⟨0, by omega, rfl, fun r hr => absurd hr (by omega), rfl⟩
  case round =>
    obtain ⟨i, hi', rfl, hall, rfl⟩ := hrel
    by_cases hlt : i < n
    · obtain ⟨x, hx⟩ : ∃ x, xs[i]? = some x := get_of_lt (by rw [hlh.out]; exact hlt)
      obtain ⟨b, o, rfl, hb, c0⟩ := hS.int_at hx
      have hX := hid hx
      clear hx
      have hi1 : (i : Int) < (n : Int) := by omega
      rcases hq : (x == v) with _ | _
      · go_wp2
        go_roundw
        case rel => exact ⟨i + 1, by omega, by go_num, fun r hr u hu => (by
          rcases Nat.lt_or_ge r i with h1 | h1
          · exact hall.out r h1 u hu
          · rw [show r = i by omega, hX.out] at hu
            simp only [Option.some.injEq] at hu
            rw [← hu]; exact hq), by simp⟩
        case measure => simp [intOf]; omega
      · have hR := hid (show (xs.any fun x => x == v) = true from List.any_eq_true.2 ⟨x, List.mem_of_getElem? hX.out, hq⟩)
        go_wp2
        go_ret
        exact ⟨ret_bool hR.out.symm, rfl⟩
    · have hi1 : ¬ (i : Int) < (n : Int) := by omega
      have hR := hid (show (xs.any fun x => x == v) = false from by
        rw [List.any_eq_false]
        intro x hx
        obtain ⟨r, hr⟩ := List.getElem?_of_mem hx
        have := hall.out r (by have h1 := (List.getElem?_eq_some_iff.1 hr).1; rw [hlh.out] at h1; omega) x hr
        simp [this])
      go_wp2
      go_ret
      exact ⟨ret_bool hR.out.symm, rfl⟩
theorem has_nats (U : List Nat) (i : Nat) : ((nats U).any fun x => x == (i : Int)) = decide (i ∈ U) := by
  rw [Bool.eq_iff_iff, List.any_eq_true, decide_eq_true_eq]
  constructor
  · rintro ⟨x, hx, he⟩
    have : x = (i : Int) := by simpa using he
    subst this
    exact nats_mem.1 hx
  · intro h
    exact ⟨i, nats_mem.2 h, by simp⟩
theorem OwnR.sep {w w' : World} {t e : TypeId} {k n c lo hi : Nat} {A : Option Addr} {LL : List (List Value)} {Vs : List Value} {r : Option Nat} (h : OwnR k lo hi w t e A n c LL Vs) (hg : w.grownBy w' r) (h1 : (Value.slice A n c).ownBlock = none ∨ (Value.slice A n c).ownBlock ≠ r)
    (h2 : ∀ (i : Nat) a m d, Vs[i]? = some (.slice a m d) → (Value.slice a m d).ownBlock = none ∨ (Value.slice a m d).ownBlock ≠ r) : OwnR k lo hi w' t e A n c LL Vs :=
  ⟨⟨h.out.own.kept hg h1, h.out.up⟩, h.len, fun i l hl => by
    obtain ⟨a, m, d, hv, ho⟩ := h.row i l hl
    exact ⟨a, m, d, hv, ⟨ho.own.kept hg (h2 i a m d hv), ho.up⟩⟩⟩
def cellsN (LL : List (List Nat)) : List (List Value) := LL.map fun l => ints (nats l)
theorem cellsN_snoc (LL : List (List Nat)) (l : List Nat) : cellsN LL ++ [ints (nats l)] = cellsN (LL ++ [l]) := by simp [cellsN]
/-- The clusters told so far, and the list of what is in them: in memory. -/
structure OutS (w : World) (xs : List Hotspot) (i : Nat) (q u : Value) (wr : World) : Prop where
  ex : ∃ (A' : Option Addr) (m c' : Nat) (Vs : List Value) (Au : Option Addr) (mu cu : Nat) (U : List Nat), q = .slice A' m c' ∧ u = .slice Au mu cu ∧ OwnR 1 w.heap.size wr.heap.size wr 24 3 A' m c' (cellsN (clusU xs i)) Vs ∧ wr.ownsRow w.heap.size 3 1 (.slice Au mu cu) mu (ints (nats U)) ∧ mu ≤ 10 * i
    ∧ Hid (∀ x, x < xs.length → (x ∈ U ↔ x ∈ (clusU xs i).flatten)) ∧ Hid (∀ (j : Nat) a m d, Vs[j]? = some (.slice a m d) → (Value.slice a m d).ownBlock = none ∨ (Value.slice a m d).ownBlock ≠ (Value.slice Au mu cu).ownBlock)
  bel : Below w.heap.size w wr
/-- The set of the search, in memory. -/
structure SetS (xs : List Hotspot) (b0 i L k : Nat) (more : Bool) (q : Value) (wr : World) : Prop where
  ex : ∃ (S : List Nat) (As : Option Addr) (cs : Nat), q = .slice As S.length cs ∧ wr.ownsRow b0 3 1 (.slice As S.length cs) S.length (ints (nats S)) ∧ Hid (Grow xs i L k more S)
theorem info_intsS : (Try.prog.info? 24).map (fun i => (i.zero, i.size, i.bytes)) = some (some (.slice none 0 0), 1, 24) := by kernel_rfl
theorem slice_atS {g g' n : Nat} (h : g = g') : Value.slice (some ⟨g, 0, none⟩) n n = .slice (some ⟨g', 0, none⟩) n n := by rw [h]
def muS (n : Nat) (q u : Value) : Nat := 2 * (n - (match q with | .slice _ m _ => m | _ => 0)) + (match u with | .bool true => 1 | _ => 0)
set_option maxHeartbeats 16000000 in
set_option maxRecDepth 100000 in
theorem l7ClustersS (A : Option Addr) (n c : Nat) (xs : List Hotspot) (w : World) (hS : Sl w 6 A n c (xs.flatMap Hotspot.row)) (hn : n ≤ 10) (ha : allH xs) :
    Calls Try.prog 34 #[.slice A n c] w fun e w' => ∃ A' n' c' Vs, e = .returned (.slice A' n' c') ∧ OwnR 1 w.heap.size w'.heap.size w' 24 3 A' n' c' (cellsN (clusL xs)) Vs ∧ Below w.heap.size w w' := by
  have hlx := hid (hS.xs_len Hotspot.row_len (by omega))
  have hall := hid ha
  clear ha
  have hn0 : (n : Int) ≤ 10 := by omega
  go_enter Try.func34, Try.ntmps34
  have hO0 : OutS w xs 0 (.slice (some ⟨w.heap.size, 0, none⟩) 0 0) (.slice (some ⟨w.heap.size + 1, 0, none⟩) 0 0) ((w.alloc (.cells #[] 24)).alloc (.cells #[] 3)) :=
    ⟨⟨_, 0, 0, [], _, 0, 0, [], rfl, rfl, ownR_nil (Own.mk_ (own_bel (own_empty (w := w) (base := w.heap.size) (size := 1) (e := 24) (Nat.le_refl _)) (bel_alloc (bel_refl _)))), (by have h := own_empty (w := w.alloc (.cells #[] 24)) (base := w.heap.size) (size := 1) (e := 3) (by simp); rw [show (w.alloc (.cells #[] 24)).heap.size = w.heap.size + 1 by simp] at h; exact h), by omega, hid (fun x hx => by simp [clusU]), hid (fun j a m d hv => by simp at hv)⟩, bel_alloc (bel_alloc (bel_refl w))⟩
  go_wp2_with fail
  go_loopw [3, 4, 5] (fun q u v wr => ∃ i : Nat, i ≤ n ∧ v = .int .i64 i ∧ OutS w xs i q u wr) (fun _ _ v _ => n - (intOf v).toNat)
  case atStart => exact ⟨0, by omega, rfl, hO0⟩
  case round =>
    clear hO0
    obtain ⟨i, hi', rfl, hO⟩ := hrel
    obtain ⟨A', m, c', Vs, Au, mu, cu, U, rfl, rfl, hR, hU, hmu, hUm, hsep⟩ := hO.ex
    have hBw := hO.bel
    clear hO
    have hm : m ≤ 10 := by
      have h1 := hR.rr.len
      have h2 := clusU_len xs i
      simp only [cellsN, List.length_map] at h1
      omega
    by_cases hlt : i < n
    · have hi1 : (i : Int) < (n : Int) := by omega
      have hi0 : (0 : Int) ≤ (i : Int) := by omega
      have hix : i < xs.length := by rw [hlx.out]; exact hlt
      go_wp2_with fail
      refine (l1Has _ _ _ (nats U) i _ (Sl.of_own hU) (by omega)).mono ?_
      rw [has_nats]
      rcases hd : decide (i ∈ U) with _ | _
      · have hnew : newI xs i := by
          rw [new_iff hix, ← hUm.out i hix]
          exact of_decide_eq_false hd
        replace hnew := hid hnew
        rintro _ _ ⟨rfl, rfl⟩
        obtain ⟨w0, hw0⟩ : ∃ w0, wr = w0 := ⟨_, rfl⟩
        rw [hw0] at hR hU hBw ⊢
        clear hw0 hd wr
        have hM1 := World.ownsRow_lit (base := w0.heap.size) (e := 3) (size := 1) w0 #[.int .i64 (i : Int)] 1 (Nat.le_refl _) (by simp [maxLen]) rfl
        have hSt : SetS xs w0.heap.size i 0 0 true (.slice (some ⟨w0.heap.size, 0, none⟩) 1 1) (w0.alloc (.cells #[.int .i64 (i : Int)] 3)) := ⟨⟨[i], _, _, rfl, hM1, ⟨by simp, fun x hx => by simp only [List.mem_singleton] at hx; subst hx; exact ⟨hix, .refl _⟩, by simp, by simp, fun _ => by simp, fun h => Bool.noConfusion h⟩⟩⟩
        have hb1 : Below w0.heap.size w0 (w0.alloc (.cells #[.int .i64 (i : Int)] 3)) := bel_alloc (bel_refl _)
        clear hM1
        go_wp2_with fail
        go_loopw [6, 7] (fun q u wq => ∃ (more : Bool) (L k : Nat), u = .bool more ∧ (more = false → k = n) ∧ SetS xs w0.heap.size i L k more q wq ∧ Below w0.heap.size w0 wq) (fun q u _ => muS n q u)
        case atStart => exact ⟨true, 0, 0, rfl, fun h => Bool.noConfusion h, hSt, hb1⟩
        case round =>
          clear hSt hb1
          obtain ⟨more, L, k, rfl, hmk, hSt, hbq⟩ := hrel
          obtain ⟨S, As, cs, rfl, hSo, hG⟩ := hSt.ex
          have hSl : S.length ≤ n := by have := grow_len hG.out; rw [hlx.out] at this; exact this
          rcases more with _ | _
          · have hSe : S = comp xs i := by
              have hk := hmk rfl
              subst hk
              exact grow_end (by rw [hlx.out]; exact hG.out)
            have hSp : 0 < S.length := List.length_pos_of_mem hG.out.first
            obtain ⟨g, rfl, hgl, hgh⟩ := own_form hSo hSp
            obtain ⟨i0, hi0, hz0, hz1, hz2⟩ := info_parts info_int
            have hR1 := (hR.bel hbq).high hbq.size
            have hU1 := own_bel hU hbq
            have hBq := bel_trans hBw hbq
            have hCs := hid (clusU_yes hnew.out)
            have hUb : Hid (∀ q, (Value.slice Au mu cu).ownBlock = some q → q < w0.heap.size) := fun q hq => (hU.lt q hq).2
            rw [← hSe] at hCs
            clear hmk hSt hG hSe hR hU
            go_upto_region 23 with (at_builtin; refine wpList_push rfl (.tmp 62) (.tmp 64) 34 rfl w.heap.size 24 (.slice none 0 0) 1 24 Try.underlying34 info_intsS rfl (by omega) A' m c' _ [.slice (some ⟨g, 0, none⟩) S.length cs] 24 rfl hR1.out.own (by first | rfl | exact slice_atS (by simp)) rfl (by intro u hu; rw [List.mem_singleton.1 hu]; rfl) (by omega) (by omega) hBq.size ?_; intro A6 c6 w6 hO6 hb6 hg6)
            have hB6 := hBq.grown hg6 hBq.size fun q hq => (hR1.out.own.lt q hq).1
            have hI6 : Own w.heap.size w6.heap.size wr 3 1 (some ⟨g, 0, none⟩) S.length cs (ints (nats S)) := (Own.mk_ (own_low hSo hBw.size)).high hg6.size
            have hR6 := OwnR.push hR1 hg6.size (by decide) hI6 (Own.mk_ hO6) hg6
            have hU6 := own_other hR1.out.own hU1 (by decide) hg6
            have hS6 := own_other hR1.out.own hSo (by decide) hg6
            have hnews : ∀ j u, (ints (nats S))[j]? = some u → w6.cell? ((⟨g, 0, none⟩ : Addr).add j) = some u := fun j u hu => by
              have hj := (List.getElem?_eq_some_iff.1 hu).1
              rw [ints_len, nats_len] at hj
              have := (hS6.cellAt j (by omega)).trans hu
              rw [← this]
              have : (⟨g, 0, none⟩ : Addr).add j = ⟨g, j, none⟩ := by rw [Addr.add_lit]; simp
              rw [this]
            have hlS : (ints (nats S)).length = S.length * 1 := by rw [ints_len, nats_len, Nat.mul_one]
            go_wp2_with (at_builtin; refine wpList_append_own_at _ rfl (.tmp 66) (.tmp 67) 24 rfl w.heap.size 3 i0 (.int .i64 0) 1 8 Try.underlying24 hi0 hz0 hz1 hz2 rfl (by omega) (.slice Au mu cu) mu (ints (nats U)) rfl hU6 ⟨g, 0, none⟩ S.length cs (ints (nats S)) rfl hlS hnews (oneCell_ints _) (by simp only [maxLen]; omega) (by omega) hB6.size ?_; intro v' w7 hU7 hg7 _ hat)
            obtain ⟨Av, cv, rfl⟩ := own_slice hU7
            have hsep6 : ∀ (j : Nat) a m' d, (Vs ++ [Value.slice (some ⟨g, 0, none⟩) S.length cs])[j]? = some (.slice a m' d) → (Value.slice a m' d).ownBlock = none ∨ (Value.slice a m' d).ownBlock ≠ (Value.slice Au mu cu).ownBlock := fun j a m' d hv => by
              rcases Nat.lt_or_ge j Vs.length with h1 | h1
              · rw [List.getElem?_append_left h1] at hv
                exact hsep.out j a m' d hv
              · have hj : j < (Vs ++ [Value.slice (some ⟨g, 0, none⟩) S.length cs]).length := (List.getElem?_eq_some_iff.1 hv).1
                obtain rfl : j = Vs.length := by simp at hj; omega
                rw [List.getElem?_append_right (Nat.le_refl _), Nat.sub_self] at hv
                simp only [List.getElem?_cons_zero, Option.some.injEq] at hv
                rw [← hv]
                refine Or.inr fun e => ?_
                have := hUb.out g (e.symm.trans rfl)
                omega
            have hout : (Value.slice A6 (m + 1) c6).ownBlock = none ∨ (Value.slice A6 (m + 1) c6).ownBlock ≠ (Value.slice Au mu cu).ownBlock := by
              rcases hq : (Value.slice A6 (m + 1) c6).ownBlock with _ | q
              · exact Or.inl rfl
              · exact Or.inr fun e => absurd (own_type hR6.out.own hU6 hq e.symm) (by decide)
            have hR7 := (hR6.sep hg7 hout hsep6).high hg7.size
            have hsep7 : Hid (∀ (j : Nat) a m' d, (Vs ++ [Value.slice (some ⟨g, 0, none⟩) S.length cs])[j]? = some (.slice a m' d) → (Value.slice a m' d).ownBlock = none ∨ (Value.slice a m' d).ownBlock ≠ (Value.slice Av (mu + S.length) cv).ownBlock) := fun j a m' d hv => by
              rcases hsep6 j a m' d hv with h1 | h1
              · exact Or.inl h1
              · rcases hat with h2 | h2
                · rw [h2]
                  exact Or.inr h1
                · refine Or.inr fun e => ?_
                  have hjl : j < (cellsN (clusU xs i) ++ [ints (nats S)]).length := by rw [← hR6.len]; exact (List.getElem?_eq_some_iff.1 hv).1
                  obtain ⟨a', m'', d', hv', ho⟩ := hR6.row j _ (List.getElem?_eq_getElem hjl)
                  rw [hv] at hv'
                  cases hv'
                  have := ho.up _ (e.trans h2)
                  omega
            refine ⟨⟨i + 1, hlt, by go_num, ⟨⟨A6, m + 1, c6, _, Av, mu + S.length, cv, U ++ S, rfl, rfl, ?_, ?_, ?_, ?_, hsep7⟩, ?_⟩⟩, meas hlt⟩
            · rw [hCs.out, ← cellsN_snoc]
              exact hR7
            · have e : ints (nats U) ++ ints (nats S) = ints (nats (U ++ S)) := by simp [nats, ints]
              rw [← e]
              exact hU7
            · omega
            · intro x hx
              rw [hCs.out, List.flatten_append, List.mem_append, List.mem_append, hUm.out x hx]
              simp
            · exact hB6.grown hg7 hB6.size fun q hq => (hU6.lt q hq).1
          · have hG2 := hid (grow_again hG.out)
            have hS0 : SetS xs w0.heap.size i S.length 0 false (.slice As S.length cs) wr := ⟨⟨S, As, cs, rfl, hSo, hG2⟩⟩
            clear hSt hSo hG hG2 hmk
            go_wp2_with fail
            go_loopw [6, 7, 8] (fun q u v wq => ∃ (m2 : Bool) (k2 : Nat), k2 ≤ n ∧ u = .bool m2 ∧ v = .int .i64 k2 ∧ SetS xs w0.heap.size i S.length k2 m2 q wq ∧ Below w0.heap.size w0 wq) (fun _ _ v _ => n - (intOf v).toNat)
            case atStart => exact ⟨false, 0, by omega, rfl, rfl, hS0, hbq⟩
            case round =>
              clear hS0 hbq
              obtain ⟨m2, k2, hk2, rfl, rfl, hSt, hbq⟩ := hrel
              obtain ⟨T, At, ct, rfl, hTo, hG⟩ := hSt.ex
              have hTl : T.length ≤ n := by have := grow_len hG.out; rw [hlx.out] at this; exact this
              by_cases hlk : k2 < n
              · have hk1 : (k2 : Int) < (n : Int) := by omega
                have hk0 : (0 : Int) ≤ (k2 : Int) := by omega
                have hkx : k2 < xs.length := by rw [hlx.out]; exact hlk
                obtain ⟨z, hz⟩ : ∃ z, xs[k2]? = some z := get_of_lt hkx
                have hgz := hall.out k2 z hz
                have hZ := hid hz
                have hTp : 0 < T.length := List.length_pos_of_mem hG.out.first
                have hTl1 : (T.length : Int) ≤ 10 := by omega
                obtain ⟨w1, hw1⟩ : ∃ w1, wr = w1 := ⟨_, rfl⟩
                rw [hw1] at hTo hbq ⊢
                clear hw1 hz hSt wr
                obtain ⟨g, rfl, hgl, hgh⟩ := own_form hTo hTp
                go_wp2_with fail
                go_loopw [9, 10] (fun q v wj => ∃ (b : Bool) (j : Nat), j ≤ T.length ∧ q = .bool b ∧ v = .int .i64 j ∧ Hid (b = true ↔ ∃ x ∈ T.take j, nearI xs x k2 = true) ∧ Below w1.heap.size w1 wj) (fun _ v _ => T.length - (intOf v).toNat)
                case atStart => exact ⟨false, 0, by omega, rfl, rfl, hid (by simp), bel_refl _⟩
                case round =>
                  obtain ⟨b, j, hj, rfl, rfl, hb, hbj⟩ := hrel
                  have hTw := own_bel hTo hbj
                  have hSw := hS.bel (bel_trans hBw (bel_trans hbq hbj))
                  by_cases hlj : j < T.length
                  · have hj1 : (j : Int) < (T.length : Int) := by omega
                    have hj0 : (0 : Int) ≤ (j : Int) := by omega
                    obtain ⟨y, hy⟩ : ∃ y, T[j]? = some y := get_of_lt hlj
                    have hyx := (hG.out.mem y (List.mem_of_getElem? hy)).1
                    obtain ⟨a, ha⟩ : ∃ a, xs[y]? = some a := get_of_lt hyx
                    have hga := hall.out y a ha
                    have hN0 := hid (nearI_at ha hZ.out)
                    have hnx : Hid (∀ x, x ∈ T.take (j + 1) ↔ x ∈ T.take j ∨ x = y) := fun x => by rw [List.take_add_one, hy]; simp
                    have d0 := own_at_int hTw (nats_get hy)
                    have hy0 : (0 : Int) ≤ (y : Int) := by omega
                    have hy1 : (y : Int) < (n : Int) := by have := hlx.out; omega
                    have hgw : g < wr.heap.size := Nat.lt_of_lt_of_le hgh hbj.size
                    obtain ⟨bl, o, rfl, hbl, a0, a1, a2, a3, a4, a5⟩ := hSw.hotspot ha
                    obtain ⟨bl', o', hbo, _, z0, z1, z2, z3, z4, z5⟩ := hSw.hotspot hZ.out
                    simp only [Option.some.injEq, Addr.mk.injEq, and_true] at hbo
                    obtain ⟨rfl, rfl⟩ := hbo
                    have hB2 := bel_refl wr
                    clear hy ha
                    rcases b with _ | _
                    · rcases hs : sameB a z with _ | _
                      · have hb2 : Hid ((false = true) ↔ ∃ x ∈ T.take (j + 1), nearI xs x k2 = true) := by
                          constructor
                          · intro h; cases h
                          · rintro ⟨x, hx, hn⟩
                            rcases (hnx.out x).1 hx with h1 | rfl
                            · exact hb.out.2 ⟨x, h1, hn⟩
                            · rw [hN0.out, hs] at hn; exact hn
                        go_wp2_with fail
                        (refine wp_region_bel (by kernel_rfl) (by kernel_rfl) ?_; have hD := bel_cells hB2; (repeat (go_big_quiet_step (((go_at_call 59; exact calls_bel (l7Same a z _ hga hgz)))))); refine wpQuiet_nil ?_; intro w1 hB1; replace hB2 := bel_trans hB2 hB1; obtain ⟨hC1, hF1⟩ := bcell hB2; clear hD; replace hB1 := hB1)
                        rw [hs]
                        go_wp2_with fail
                        go_roundw
                        case rel => exact ⟨false, j + 1, by omega, rfl, by go_num, by simpa using hb2, bel_trans hbj hB2⟩
                        case measure => simp [intOf]; omega
                      · have hb2 : Hid ((true = true) ↔ ∃ x ∈ T.take (j + 1), nearI xs x k2 = true) := ⟨fun _ => ⟨y, (hnx.out y).2 (Or.inr rfl), hN0.out.trans hs⟩, fun _ => rfl⟩
                        go_wp2_with fail
                        (refine wp_region_bel (by kernel_rfl) (by kernel_rfl) ?_; have hD := bel_cells hB2; (repeat (go_big_quiet_step (((go_at_call 59; exact calls_bel (l7Same a z _ hga hgz)))))); refine wpQuiet_nil ?_; intro w1 hB1; replace hB2 := bel_trans hB2 hB1; obtain ⟨hC1, hF1⟩ := bcell hB2; clear hD; replace hB1 := hB1)
                        rw [hs]
                        go_wp2_with fail
                        go_roundw
                        case rel => exact ⟨true, j + 1, by omega, rfl, by go_num, by simpa using hb2, bel_trans hbj hB2⟩
                        case measure => simp [intOf]; omega
                    · have hb2 : Hid ((true = true) ↔ ∃ x ∈ T.take (j + 1), nearI xs x k2 = true) := ⟨fun _ => by
                        obtain ⟨x, hx, hn⟩ := hb.out.1 rfl
                        exact ⟨x, (hnx.out x).2 (Or.inl hx), hn⟩, fun _ => rfl⟩
                      go_wp2_with fail
                      (refine wp_region_bel (by kernel_rfl) (by kernel_rfl) ?_; have hD := bel_cells hB2; (repeat (go_big_quiet_step ((fail)))); refine wpQuiet_nil ?_; intro w1 hB1; replace hB2 := bel_trans hB2 hB1; obtain ⟨hC1, hF1⟩ := bcell hB2; clear hD; replace hB1 := hB1)
                      go_wp2_with fail
                      go_roundw
                      case rel => exact ⟨true, j + 1, by omega, rfl, by go_num, by simpa using hb2, bel_trans hbj hB2⟩
                      case measure => simp [intOf]; omega
                  · have hj1 : ¬ (j : Int) < (T.length : Int) := by omega
                    have hb' := hb.out
                    rw [List.take_of_length_le (by omega)] at hb'
                    replace hb := hid hb'
                    clear hb'
                    rcases b with _ | _
                    · have hG3 := hid (grow_skip hG.out fun h => by have := hb.out.2 h; cases this)
                      go_wp2_with fail
                      go_roundw
                      case rel => exact ⟨m2, k2 + 1, by omega, rfl, by go_num, ⟨⟨T, _, ct, rfl, hTw, hG3⟩⟩, bel_trans hbq hbj⟩
                      case measure => simp [intOf]; omega
                    · go_wp2_with fail
                      refine (l1Has _ _ _ (nats T) k2 _ (Sl.of_own hTw) (by omega)).mono ?_
                      rw [has_nats]
                      rcases hd2 : decide (k2 ∈ T) with _ | _
                      · have hnk := of_decide_eq_false hd2
                        rintro _ _ ⟨rfl, rfl⟩
                        clear hd2
                        go_wp2_with fail
                        refine (l1Put _ T.length ct w0.heap.size (nats T) k2 _ hTw (by have := hbq.size; have := hbj.size; omega) (Sl.of_own hTw) (by omega)).mono ?_
                        rintro _ w3 ⟨A3, n3, c3, ys, rfl, hP, -, hO3, hb3⟩
                        obtain ⟨x, hx, hnx⟩ := hb.out.1 (by trivial)
                        obtain ⟨T', rfl, hTl', hG'⟩ := grow_add hG.out hx hnx hnk hP
                        replace hG' := hid hG'
                        have hn3 : n3 = T'.length := by have h1 := hO3.1; rw [ints_len, nats_len] at h1; omega
                        subst hn3
                        replace hTl' := hid hTl'
                        clear hP hx hnx hnk
                        go_wp2_with fail
                        go_roundw
                        case rel => exact ⟨true, k2 + 1, by omega, rfl, by go_num, ⟨⟨T', A3, c3, rfl, hO3, hG'⟩⟩, bel_trans hbq (bel_trans hbj hb3)⟩
                        case measure => simp [intOf]; omega
                      · have hG3 := hid (grow_skip hG.out fun _ => of_decide_eq_true hd2)
                        rintro _ _ ⟨rfl, rfl⟩
                        clear hd2
                        go_wp2_with fail
                        go_roundw
                        case rel => exact ⟨m2, k2 + 1, by omega, rfl, by go_num, ⟨⟨T, _, ct, rfl, hTw, hG3⟩⟩, bel_trans hbq hbj⟩
                        case measure => simp [intOf]; omega
              · have hk1 : ¬ (k2 : Int) < (n : Int) := by omega
                obtain rfl : k2 = n := by omega
                go_wp2_with fail
                refine ⟨⟨m2, S.length, k2, rfl, fun _ => rfl, ⟨⟨T, At, ct, rfl, hTo, hG⟩⟩, hbq⟩, ?_⟩
                have h1 := hG.out.len
                have h2 := hG.out.more_
                rcases m2 with _ | _
                · simp only [muS]; omega
                · have := h2 rfl; simp only [muS]; omega
      · have hold : ¬ newI xs i := by
          rw [new_iff hix, ← hUm.out i hix]
          simpa using of_decide_eq_true hd
        have hN := hid (clusU_no hold)
        clear hd
        rintro _ _ ⟨rfl, rfl⟩
        go_wp2_with fail
        go_roundw
        case rel => exact ⟨i + 1, by omega, by go_num, ⟨⟨A', m, c', Vs, Au, mu, cu, U, rfl, rfl, by rw [hN.out]; exact hR, hU, by omega, by rw [hN.out]; exact hUm, hsep⟩, hBw⟩⟩
        case measure => simp [intOf]; omega
    · have hi1 : ¬ (i : Int) < (n : Int) := by omega
      have e : i = xs.length := by rw [hlx.out]; omega
      subst e
      go_wp2_with fail
      go_ret
      exact ⟨_, _, _, rfl, ⟨Vs, hR⟩, hBw⟩
end Go.Proofs.Ytkkoccllmflhfaa

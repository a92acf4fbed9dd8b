/-
  The hot spot of a text, the program's way, walked.
-/
import Derived.Test.YtkkoccllmflhfaaGreatDoorParseI
import Derived.Test.YtkkoccllmflhfaaGreatDoorAppend
import Derived.Test.YtkkoccllmflhfaaGreatDoorPlan
import Derived.Test.YtkkoccllmflhfaaGreatDoorSpotData
namespace Go.Proofs.YtkkoccllmflhfaaGreatDoor
open Go.RowKit

def strs (xs : List ByteArray) : List Value := xs.map Value.string
theorem strs_len (xs : List ByteArray) : (strs xs).length = xs.length := by simp [strs]
theorem Sl.str_at {w : World} {A : Option Addr} {n c : Nat} {xs : List ByteArray} (h : Sl w 1 A n c (strs xs)) {i : Nat} {x : ByteArray} (hx : xs[i]? = some x) :
    ∃ b o, A = some ⟨b, o, none⟩ ∧ b < w.heap.size ∧ w.cell? ⟨b, o + i, none⟩ = some (.string x) := by
  have hi : i < xs.length := (List.getElem?_eq_some_iff.1 hx).1
  have hl := h.len
  rw [strs_len] at hl
  obtain ⟨b, o, rfl, hb, hc⟩ := h.at_ (by omega)
  exact ⟨b, o, rfl, hb, hc i _ (by simp [strs, hx])⟩
theorem Sl.str_len {w : World} {A : Option Addr} {n c : Nat} {xs : List ByteArray} (h : Sl w 1 A n c (strs xs)) : xs.length = n := by
  have := h.len
  rw [strs_len] at this
  omega
def natsZ (ps : List Nat) : List Int := List.map (fun p : Nat => (p : Int)) ps
theorem measP {i n : Nat} (h : i < n) : n - (intOf (.int .i64 ((i : Int) + 1))).toNat < n - (intOf (.int .i64 (i : Int))).toNat := by
  simp only [intOf]
  omega
/-- What is read at some places of the words. -/
def ReadAt (ws : List ByteArray) (ps : List Nat) (vs : List Int) (j : Nat) : Prop := ∀ (i p : Nat) (wd : ByteArray) (k : Int), i < j → ps[i]? = some p → ws[p]? = some wd → 0 ≤ k → k ≤ 999999 → wd = numB k → vs[i]? = some k
theorem readAt_next {ws : List ByteArray} {ps : List Nat} {vs : List Int} {j : Nat} {v : Int} (h : ReadAt ws ps vs j) (hl : vs.length = j) (hv : ∀ (p : Nat) (wd : ByteArray) (k : Int), ps[j]? = some p → ws[p]? = some wd → 0 ≤ k → k ≤ 999999 → wd = numB k → v = k) : ReadAt ws ps (vs ++ [v]) (j + 1) := by
  intro i p wd k hi hp hw h0 h1 he
  rcases Nat.lt_or_ge i j with h2 | h2
  · rw [List.getElem?_append_left (by omega)]
    exact h i p wd k h2 hp hw h0 h1 he
  · have e : i = j := by omega
    subst e
    rw [List.getElem?_append_right (by omega), hl, Nat.sub_self]
    rw [hv p wd k hp hw h0 h1 he]
    rfl
set_option maxHeartbeats 1000000 in
theorem numbersIn (A : Option Addr) (n c : Nat) (ws : List ByteArray) (B : Option Addr) (m d : Nat) (ps : List Nat) (w : World) (hS : Sl w 1 A n c (strs ws)) (hP : Sl w 1 B m d (ints (natsZ ps))) (hm : m ≤ 100) (hE : Env w) :
    Calls Tryz.prog 28 #[.slice A n c, .slice B m d] w fun e w' => ∃ A' c' vs, e = .returned (.slice A' m c') ∧ Own w.heap.size w'.heap.size w' 3 1 A' m c' (ints vs) ∧ vs.length = m ∧ ReadAt ws ps vs m ∧ Below w.heap.size w w' := by
  have hlw := hid hS.str_len
  have hlp : Hid (ps.length = m) := by show _ = _; have := hP.int_len; simpa [natsZ] using this
  have hnc := Nat.le_trans hS.cap hS.max
  go_enter Tryz.func28, Tryz.ntmps28
  go_wp2_with fail
  have hE0 := own_empty (w := w) (base := w.heap.size) (size := 1) (e := 3) (Nat.le_refl _)
  have hb0 := bel_alloc (o := .cells #[] 3) (bel_refl w)
  go_loopw [5, 12] (fun q v wr => ∃ j : Nat, j ≤ m ∧ v = .int .i64 j ∧ (∃ A' c' vs, q = .slice A' j c' ∧ wr.ownsRow w.heap.size 3 1 (.slice A' j c') j (ints vs) ∧ Hid (ReadAt ws ps vs j)) ∧ Below w.heap.size w wr) (fun _ v _ => m - (intOf v).toNat)
  case atStart => exact ⟨0, by omega, rfl, ⟨_, _, [], rfl, hE0, hid (fun i p wd k hi => by omega)⟩, hb0⟩
  case round =>
    clear hE0 hb0
    obtain ⟨j, hj, rfl, ⟨A', c', vs, rfl, hO, hR⟩, hB⟩ := hrel
    by_cases hlt : j < m
    · have hj0 : (0 : Int) ≤ (j : Int) := by omega
      have hj1 : (j : Int) < (m : Int) := by omega
      obtain ⟨p, hp⟩ : ∃ p, ps[j]? = some p := get_of_lt (by rw [hlp.out]; exact hlt)
      obtain ⟨b, o, rfl, hb, c0⟩ := (hP.bel hB).int_at (x := (p : Int)) (i := j) (by simp [natsZ, hp])
      have hp0 : (0 : Int) ≤ (p : Int) := by omega
      have hvl : vs.length = j := by have h1 := hO.1; rw [ints_len] at h1; omega
      have hE2 := hE.bel hB
      by_cases hpl : p < n
      · have hpl1 : (p : Int) < (n : Int) := by omega
        obtain ⟨s, hs⟩ : ∃ s, ws[p]? = some s := get_of_lt (by rw [hlw.out]; exact hpl)
        obtain ⟨b2, o2, rfl, hb2, e0⟩ := (hS.bel hB).str_at hs
        have hsh := hid hs
        have hph := hid hp
        clear hs hp
        go_wp2_with (first | (go_at_call 49; refine (parseInt s _ hE2).mono ?_; rintro _ w2 ⟨⟨v, k, rfl, hv⟩, hb3⟩; replace hv := hid hv; replace hO := own_bel hO hb3; replace hB := bel_trans hB hb3) | (at_builtin; refine wpList_push rfl (.tmp 28) (.tmp 30) 37 rfl w.heap.size 3 (.int .i64 0) 1 8 Tryz.underlying37 info_int rfl (by omega) A' j c' _ [.int .i64 v] 3 rfl hO (by first | rfl | exact slice_at (by simp)) rfl (by intro u hu; rw [List.mem_singleton.1 hu]; rfl) (by omega) (by omega) hB.size ?_; intro A5 c5 w5 hO5 hb5 hg5))
        have hR5 := hid (readAt_next hR.out hvl (v := v) fun p' wd k hp' hw h0 h1 he => by
          rw [hph.out] at hp'
          cases hp'
          rw [hsh.out] at hw
          cases hw
          exact hv.out k h0 h1 he)
        have eI : ints vs ++ [.int .i64 v] = ints (vs ++ [v]) := by simp [ints]
        rw [eI] at hO5
        refine ⟨⟨j + 1, hlt, by go_num, ⟨_, _, _, rfl, hO5, hR5⟩, hB.trans hb5⟩, ?_⟩
        exact measP hlt
      · have hpl1 : ¬ (p : Int) < (n : Int) := by omega
        have hph := hid hp
        clear hp
        go_wp2_with (at_builtin; refine wpList_push rfl (.tmp 28) (.tmp 30) 37 rfl w.heap.size 3 (.int .i64 0) 1 8 Tryz.underlying37 info_int rfl (by omega) A' j c' _ [.int .i64 0] 3 rfl hO (by first | rfl | exact slice_at (by simp)) rfl (by intro u hu; rw [List.mem_singleton.1 hu]; rfl) (by omega) (by omega) hB.size ?_; intro A5 c5 w5 hO5 hb5 hg5)
        have hR5 := hid (readAt_next hR.out hvl (v := 0) fun p' wd k hp' hw h0 h1 he => by
          rw [hph.out] at hp'
          cases hp'
          have := (List.getElem?_eq_some_iff.1 hw).1
          rw [hlw.out] at this
          omega)
        have eI : ints vs ++ [.int .i64 0] = ints (vs ++ [0]) := by simp [ints]
        rw [eI] at hO5
        refine ⟨⟨j + 1, hlt, by go_num, ⟨_, _, _, rfl, hO5, hR5⟩, hB.trans hb5⟩, ?_⟩
        exact measP hlt
    · have hj1 : ¬ (j : Int) < (m : Int) := by omega
      obtain rfl : j = m := by omega
      go_wp2_with fail
      go_ret
      exact ⟨A', c', rfl, vs, Own.mk_ hO, by have h1 := hO.1; rw [ints_len] at h1; omega, hR.out, hB⟩
theorem cells6P {w : World} {p : Nat} {a b c d e f : Value} {T : TypeId} (h : w.heap[p]? = some (.cells #[a, b, c, d, e, f] T (0, 0))) : (w.cell? ⟨p, 0, none⟩ = some a ∧ w.cell? ⟨p, 1, none⟩ = some b ∧ w.cell? ⟨p, 2, none⟩ = some c ∧ w.cell? ⟨p, 3, none⟩ = some d ∧ w.cell? ⟨p, 4, none⟩ = some e ∧ w.cell? ⟨p, 5, none⟩ = some f) ∧ ∀ o, w.frozen? ⟨p, o, none⟩ = false :=
  ⟨⟨cell_of_row w p 0 _ _ _ h, cell_of_row w p 1 _ _ _ h, cell_of_row w p 2 _ _ _ h, cell_of_row w p 3 _ _ _ h, cell_of_row w p 4 _ _ _ h, cell_of_row w p 5 _ _ _ h⟩, fun o => frozen_of_row w p o _ _ h⟩
theorem blk_belP {w w' : World} {p : Nat} {o : Obj} (h : w.heap[p]? = some o) (hb : Below w.heap.size w w') : w'.heap[p]? = some o := (hb.block p (lt_of_block h)).trans h
/-- The words of a text, as the program cuts it. -/
def wordsI (s : ByteArray) : List ByteArray := Lib.splitB ⟨#[32]⟩ 0 (Lib.countB ⟨(Lib.replaceAll s.data.toList [44] [32]).toArray⟩ ⟨#[32]⟩) ⟨(Lib.replaceAll s.data.toList [44] [32]).toArray⟩
theorem wordsI_data (s : ByteArray) : (wordsI s).map (fun b => b.data.toList) = splitA 32 [] (sub1 44 32 s.data.toList) := by
  unfold wordsI
  rw [Lib.splitB_data]
  have e : Lib.replaceAll s.data.toList [44] [32] = sub1 44 32 s.data.toList := replaceAll_eq (by decide) _
  rw [e]
  exact split_eq _ _ (Nat.le_refl _)
/-- At the text of a hot spot the words are its numerals. -/
theorem wordsI_text {x : Hotspot} (hg : goodH x = true) : (wordsI (textH x))[1]? = some (numB x.id) ∧ (wordsI (textH x))[3]? = some (numB x.x) ∧ (wordsI (textH x))[4]? = some (numB x.y) ∧ (wordsI (textH x))[6]? = some (numB x.err) ∧ (wordsI (textH x))[8]? = some (numB x.heat) ∧ (wordsI (textH x))[10]? = some (numB x.tick) := by
  have h := wordsI_data (textH x)
  rw [textH_data hg, words_all] at h
  have hb := goodH_bd hg
  have key : ∀ (i : Nat) (n : Int), 0 ≤ n → ([wSpot, dg x.id, wAt, dg x.x, dg x.y, wWithin, dg x.err, wHeat, dg x.heat, wSeen, dg x.tick] : List (List UInt8))[i]? = some (dg n) → (wordsI (textH x))[i]? = some (numB n) := fun i n h0 hi => by
    rw [← h, List.getElem?_map] at hi
    rcases hw : (wordsI (textH x))[i]? with _ | b
    · rw [hw] at hi; cases hi
    · rw [hw] at hi
      simp only [Option.map_some, Option.some.injEq] at hi
      rw [← numB_dg n h0] at hi
      exact congrArg some (ByteArray.ext (Array.ext' hi))
  exact ⟨key 1 _ (by omega) rfl, key 3 _ (by omega) rfl, key 4 _ (by omega) rfl, key 6 _ (by omega) rfl, key 8 _ (by omega) rfl, key 10 _ (by omega) rfl⟩
theorem sub1_len (c d : UInt8) (s : List UInt8) : (sub1 c d s).length = s.length := by simp [sub1]
theorem repl_size (s : ByteArray) : (ByteArray.mk (Lib.replaceAll s.data.toList [44] [32]).toArray).size = s.size := by
  have e : Lib.replaceAll s.data.toList [44] [32] = sub1 44 32 s.data.toList := replaceAll_eq (by decide) _
  rw [e]
  show (sub1 44 32 s.data.toList).toArray.size = s.data.size
  rw [List.size_toArray, sub1_len, Array.length_toList]
end Go.Proofs.YtkkoccllmflhfaaGreatDoor

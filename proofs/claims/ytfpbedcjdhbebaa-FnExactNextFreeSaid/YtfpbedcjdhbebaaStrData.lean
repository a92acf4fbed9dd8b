/-
  The functions that the laws are made of, on lists of texts, walked: marks, comparisons.
-/
import Derived.Test.YtfpbedcjdhbebaaRows
import Derived.Test.YtfpbedcjdhbebaaMem
import Derived.Laws.IdiomStrings
namespace Go.Proofs.Ytfpbedcjdhbebaa
open Go.RowKit

def strs (xs : List ByteArray) : List Value := xs.map Value.string
theorem strs_len (xs : List ByteArray) : (strs xs).length = xs.length := by simp [strs]
theorem strs_get {xs : List ByteArray} {i : Nat} {x : ByteArray} (h : xs[i]? = some x) : (strs xs)[i]? = some (.string x) := by simp [strs, h]
theorem strs_snoc (xs : List ByteArray) (x : ByteArray) : strs xs ++ [.string x] = strs (xs ++ [x]) := by simp [strs]
theorem Sl.str_at {w : World} {A : Option Addr} {n c : Nat} {xs : List ByteArray} (h : Sl w 1 A n c (strs xs)) {i : Nat} {x : ByteArray} (hx : xs[i]? = some x) :
    ∃ b o, A = some ⟨b, o, none⟩ ∧ b < w.heap.size ∧ w.cell? ⟨b, o + i, none⟩ = some (.string x) := by
  have hi : i < xs.length := (List.getElem?_eq_some_iff.1 hx).1
  have hl := h.len
  rw [strs_len] at hl
  obtain ⟨b, o, rfl, hb, hc⟩ := h.at_ (by omega)
  exact ⟨b, o, rfl, hb, hc i _ (strs_get hx)⟩
theorem Sl.str_len {w : World} {A : Option Addr} {n c : Nat} {xs : List ByteArray} (h : Sl w 1 A n c (strs xs)) : xs.length = n := by
  have := h.len
  rw [strs_len] at this
  omega
theorem info_string : (Try.prog.info? 9).map (fun i => (i.zero, i.size, i.bytes)) = some (some (.string ⟨#[]⟩), 1, 16) := by kernel_rfl

def digB (q : Nat) : UInt8 := UInt8.ofNat (48 + q % 10)
theorem digB_nat (q : Nat) : (digB q).toNat = 48 + q % 10 := by
  simp [digB]
  omega
def digA (q : Nat) (s : List UInt8) : List UInt8 := if h : q = 0 then s else digA (q / 10) (digB q :: s)
termination_by q
decreasing_by omega
theorem digA_zero (s : List UInt8) : digA 0 s = s := by rw [digA]; simp
theorem digA_step {q : Nat} (s : List UInt8) (h : q ≠ 0) : digA q s = digA (q / 10) (digB q :: s) := by rw [digA, dif_neg h]
def bytesOf (t : List UInt8) : ByteArray := ⟨t.toArray⟩
theorem bytesOf_size (t : List UInt8) : (bytesOf t).size = t.length := by simp [bytesOf, ByteArray.size]
def markB (k : Nat) : ByteArray := bytesOf [109] ++ bytesOf (digA k [])
theorem small_sum {a b : ByteArray} (h : a.size + b.size ≤ 2147483648) : ¬ (a.size + b.size > 9223372036854775807) := by omega
theorem digit_text (q : Nat) (w : World) : (convert 57 9 (.slice (some ⟨w.heap.size, 0, none⟩) 1 1)).run Try.prog (w.alloc (.cells #[.int .u8 (48 + (q : Int) % 10)] 5)) = .ok (.string (bytesOf [digB q])) (w.alloc (.cells #[.int .u8 (48 + (q : Int) % 10)] 5)) := by
  refine run_convert_bytes_back _ _ _ 5 ⟨w.heap.size, 0, none⟩ 1 [digB q] Try.underlying57 Try.underlying5 Try.underlying9 fun j hj => ?_
  obtain rfl : j = 0 := by simp at hj; omega
  rw [Addr.add_lit, Nat.zero_add, World.cell?_alloc_mark]
  simp [digB_nat]
set_option maxHeartbeats 1000000 in
set_option maxRecDepth 100000 in
theorem markText (k : Nat) (w : World) (h0 : 0 < k) (h1 : k ≤ 1073741824) :
    Calls Try.prog 71 #[.int .i64 k] w fun e w' => e = .returned (.string (markB k)) ∧ Below w.heap.size w w' := by
  have hkz : ¬ k = 0 := by omega
  replace h0 := hid h0
  replace h1 := hid h1
  go_enter Try.func71, Try.ntmps71
  go_wp2
  go_loopw [0, 3] (fun v s wr => ∃ (q : Nat) (t : List UInt8), q ≤ k ∧ v = .int .i64 q ∧ s = .string (bytesOf t) ∧ Hid (t.length ≤ k - q) ∧ Hid (digA q t = digA k []) ∧ Below w.heap.size w wr) (fun v _ _ => (intOf v).toNat)
  case atStart => exact ⟨k, [], Nat.le_refl _, rfl, rfl, Nat.zero_le _, rfl, by (repeat' (first | (with_reducible exact bel_refl _) | (with_reducible assumption) | (with_reducible refine bel_drew ?_) | (with_reducible refine bel_drewN ?_) | (with_reducible refine bel_alloc ?_) | (with_reducible refine bel_set ?_ ?_) | (with_reducible refine bel_trans ?_ (by with_reducible assumption)) | omega | (simp; done) | (simp; omega)))⟩
  case round =>
    obtain ⟨q, t, hq, rfl, rfl, hl, hd, hB⟩ := hrel
    have hsz := bytesOf_size t
    have hl1 := hl.out
    have hk1 := h1.out
    have hsm : ¬ ((ByteArray.mk #[109]).size + (bytesOf t).size > 9223372036854775807) := small_sum (by rw [hsz]; show 1 + _ ≤ _; omega)
    have hsn : ¬ ((bytesOf [digB q]).size + (bytesOf t).size > 9223372036854775807) := small_sum (by rw [hsz, bytesOf_size]; show 1 + _ ≤ _; omega)
    have hcv := digit_text q wr
    clear hsz hl1 hk1
    by_cases hlt : 0 < q
    · have hq0 : (0 : Int) < (q : Int) := by omega
      have hq1 : (q : Int) ≤ 1073741824 := by have := h1.out; omega
      replace hlt := hid hlt
      go_wp2_with fail
      go_roundw
      case rel => exact ⟨q / 10, digB q :: t, by omega, by go_num, rfl, by (have := hl.out; have := hlt.out; show (t.length + 1) ≤ _; omega), (by show _ = _; rw [← digA_step _ (by have := hlt.out; omega)]; exact hd.out), by (repeat' (first | (with_reducible exact bel_refl _) | (with_reducible assumption) | (with_reducible refine bel_drew ?_) | (with_reducible refine bel_drewN ?_) | (with_reducible refine bel_alloc ?_) | (with_reducible refine bel_set ?_ ?_) | (with_reducible refine bel_trans ?_ (by with_reducible assumption)) | omega | (simp; done) | (simp; omega)))⟩
      case measure => simp [intOf]; omega
    · have hq0 : ¬ (0 : Int) < (q : Int) := by omega
      replace hlt := hid hlt
      clear hsn
      go_wp2
      go_ret
      have e : q = 0 := by have := hlt.out; omega
      subst e
      have := hd.out
      rw [digA_zero] at this
      refine ⟨?_, by (repeat' (first | (with_reducible exact bel_refl _) | (with_reducible assumption) | (with_reducible refine bel_drew ?_) | (with_reducible refine bel_drewN ?_) | (with_reducible refine bel_alloc ?_) | (with_reducible refine bel_set ?_ ?_) | (with_reducible refine bel_trans ?_ (by with_reducible assumption)) | omega | (simp; done) | (simp; omega)))⟩
      rw [markB, ← this]
      rfl
theorem markTextZ (z : Int) (k : Nat) (w : World) (hz : z = (k : Int)) (h0 : 0 < k) (h1 : k ≤ 1073741824) :
    Calls Try.prog 71 #[.int .i64 z] w fun e w' => e = .returned (.string (markB k)) ∧ Below w.heap.size w w' := by
  subst hz
  exact markText k w h0 h1
theorem grown_bel {w w1 w2 : World} {r : Option Nat} (h : w.grownBy w1 r) (hb : Below w1.heap.size w1 w2) : w.grownBy w2 r :=
  ⟨hb.os.trans h.os, hb.tape.trans h.tape, hb.output.trans h.output, Nat.le_trans h.size hb.size, fun i hi hne => (hb.block i (Nat.lt_of_lt_of_le hi h.size)).trans (h.block i hi hne)⟩
def marksT (k m : Nat) : List Value := (List.range m).map fun j => Value.string (markB (k + j))
theorem marksT_len (k m : Nat) : (marksT k m).length = m := by simp [marksT]
theorem marksT_get {k m j : Nat} (hj : j < m) : (marksT k m)[j]? = some (.string (markB (k + j))) := by simp [marksT, hj]
theorem eqStringS (A B : Option Addr) (n c d : Nat) (xs : List ByteArray) (w : World) (h : Sl w 1 A n c (strs xs)) (h2 : Sl w 1 B n d (strs xs)) (hn : n ≤ 1048576) :
    Calls Try.prog 22 #[.slice A n c, .slice B n d] w fun e w' => e = .returned (.bool true) ∧ Below w.heap.size w w' := by
  go_enter Try.func22, Try.ntmps22
  go_wp2
  go_loopw [5] (fun v wr => ∃ i : Nat, i ≤ n ∧ v = .int .i64 i ∧ Below w.heap.size w wr) (fun v _ => n - (intOf v).toNat)
  case atStart => exact ⟨0, Nat.zero_le _, rfl, by (repeat' (first | (with_reducible exact bel_refl _) | (with_reducible assumption) | (with_reducible refine bel_drew ?_) | (with_reducible refine bel_drewN ?_) | (with_reducible refine bel_alloc ?_) | (with_reducible refine bel_set ?_ ?_) | (with_reducible refine bel_trans ?_ (by with_reducible assumption)) | omega | (simp; done) | (simp; omega)))⟩
  case round =>
    obtain ⟨i, hi', rfl, hB⟩ := hrel
    by_cases hlt : i < n
    · obtain ⟨x, hx⟩ : ∃ x, xs[i]? = some x := get_of_lt (by rw [h.str_len]; exact hlt)
      obtain ⟨b, o, rfl, hb, c0⟩ := (h.bel hB).str_at hx
      obtain ⟨b', o', rfl, hb', e0⟩ := (h2.bel hB).str_at hx
      clear hx
      have hB2 := bel_refl wr
      have hc0 : (0 : Int) ≤ (i : Int) := by omega
      have hc1 : (i : Int) < (n : Int) := by omega
      go_wp2_with fail
      (refine wp_region_bel (by kernel_rfl) (by kernel_rfl) ?_; have hD := bel_cells hB2; (repeat (go_big_quiet_step ((fail)))); refine wpQuiet_nil ?_; intro w1 hB1; replace hB2 := bel_trans hB2 hB1; obtain ⟨hC1, hF1⟩ := bcell hB2; clear hD; replace hB1 := hB1)
      go_wp2
      go_roundw
      case rel => exact ⟨i + 1, by omega, by go_num, by (repeat' (first | (with_reducible exact bel_refl _) | (with_reducible assumption) | (with_reducible refine bel_drew ?_) | (with_reducible refine bel_drewN ?_) | (with_reducible refine bel_alloc ?_) | (with_reducible refine bel_set ?_ ?_) | (with_reducible refine bel_trans ?_ (by with_reducible assumption)) | omega | (simp; done) | (simp; omega)))⟩
      case measure => simp [intOf]; omega
    · go_wp2
      go_ret
      exact ⟨rfl, by (repeat' (first | (with_reducible exact bel_refl _) | (with_reducible assumption) | (with_reducible refine bel_drew ?_) | (with_reducible refine bel_drewN ?_) | (with_reducible refine bel_alloc ?_) | (with_reducible refine bel_set ?_ ?_) | (with_reducible refine bel_trans ?_ (by with_reducible assumption)) | omega | (simp; done) | (simp; omega)))⟩
set_option maxHeartbeats 1000000 in
theorem markStringS (A : Option Addr) (n c lo hi : Nat) (k0 : Nat) (L : List Value) (w : World) (h : Own lo hi w 9 1 A n c L) (hn : n ≤ 1048576) (h0 : 0 < k0) (h1 : k0 ≤ 1048576) :
    Calls Try.prog 23 #[.slice A n c, .int .i64 k0] w fun e w' => e = .returned (.int .i64 ((k0 : Int) + n)) ∧ Own lo hi w' 9 1 A n c (marksT k0 n) ∧ w.grownBy w' (Value.slice A n c).ownBlock := by
  have hLl : Hid ((marksT k0 n).length = L.length) := by
    show _ = _
    rw [marksT_len, h.own.1]
    omega
  replace h0 := hid h0
  replace h1 := hid h1
  replace hn := hid hn
  have hnb : (n : Int) ≤ 1048576 := by have := hn.out; omega
  have hkb : (k0 : Int) ≤ 1048576 := by have := h1.out; omega
  go_enter Try.func23, Try.ntmps23
  go_wp2
  go_loopw [1, 5] (fun q v wr => ∃ i : Nat, i ≤ n ∧ v = .int .i64 i ∧ q = .int .i64 ((k0 : Int) + i) ∧ wr.ownsRow lo 9 1 (.slice A n c) n ((marksT k0 n).take i ++ L.drop i) ∧ w.grownBy wr (Value.slice A n c).ownBlock) (fun _ v _ => n - (intOf v).toNat)
  case atStart => exact ⟨0, Nat.zero_le _, rfl, by simp, by simpa using h.own, World.grownBy.refl _ _⟩
  case round =>
    obtain ⟨i, hi', rfl, rfl, hown, hg⟩ := hrel
    by_cases hlt : i < n
    · obtain ⟨g, rfl, hgl, hgh⟩ := own_form hown (by omega)
      have hfz := own_fz hown
      obtain ⟨u0, d0⟩ := own_at hown (j := i) (by omega)
      have hil : (i : Int) < (n : Int) := by omega
      go_wp2_with (go_at_call 71; (try rw [show (k0 : Int) + (i : Int) = ((k0 + i : Nat) : Int) from by omega]); refine (markText (k0 + i) _ (by have := h0.out; omega) (by have := h1.out; have := hn.out; omega)).mono ?_; rintro _ w2 ⟨rfl, hB1⟩; obtain ⟨hC1, hF1⟩ := bcell hB1)
      have f0 : (marksT k0 n)[i]? = some (.string (markB (k0 + i))) := marksT_get (by omega)
      go_roundw
      case rel =>
        refine ⟨i + 1, by omega, by go_num, ?_, ?_, ?_⟩
        · go_num
        · exact own_store (own_bel hown hB1) hLl.out f0
        · show w.grownBy _ (some g)
          exact grown_set (grown_bel hg hB1) _
      case measure => simp [intOf]; omega
    · go_wp2
      go_ret
      have e : i = n := by omega
      subst e
      have hl := h.own.1
      rw [List.take_of_length_le (by rw [marksT_len]; omega), List.drop_of_length_le (by omega), List.append_nil] at hown
      exact ⟨rfl, ⟨hown, h.up⟩, hg⟩
set_option maxHeartbeats 1000000 in
theorem heldStringS (A : Option Addr) (n c : Nat) (k0 : Nat) (w : World) (h : Sl w 1 A n c (marksT k0 n)) (hn : n ≤ 1048576) (h0 : 0 < k0) (h1 : k0 ≤ 1048576) :
    Calls Try.prog 24 #[.slice A n c, .int .i64 k0] w fun e w' => e = .returned (.int .i64 ((k0 : Int) + n)) ∧ Below w.heap.size w w' := by
  replace h0 := hid h0
  replace h1 := hid h1
  replace hn := hid hn
  have hnb : (n : Int) ≤ 1048576 := by have := hn.out; omega
  have hkb : (k0 : Int) ≤ 1048576 := by have := h1.out; omega
  go_enter Try.func24, Try.ntmps24
  go_wp2
  go_loopw [1, 5] (fun q v wr => ∃ i : Nat, i ≤ n ∧ v = .int .i64 i ∧ q = .int .i64 ((k0 : Int) + i) ∧ Below w.heap.size w wr) (fun _ v _ => n - (intOf v).toNat)
  case atStart => exact ⟨0, Nat.zero_le _, rfl, by simp, by (repeat' (first | (with_reducible exact bel_refl _) | (with_reducible assumption) | (with_reducible refine bel_drew ?_) | (with_reducible refine bel_drewN ?_) | (with_reducible refine bel_alloc ?_) | (with_reducible refine bel_set ?_ ?_) | (with_reducible refine bel_trans ?_ (by with_reducible assumption)) | omega | (simp; done) | (simp; omega)))⟩
  case round =>
    obtain ⟨i, hi', rfl, rfl, hB⟩ := hrel
    by_cases hlt : i < n
    · obtain ⟨b, o, rfl, hb, hc⟩ := (h.bel hB).at_ (by omega)
      have c0 : wr.cell? ⟨b, o + i, none⟩ = some (.string (markB (k0 + i))) := hc _ _ (marksT_get (by omega))
      clear hc
      have hil : (i : Int) < (n : Int) := by omega
      have hi0 : (0 : Int) ≤ (i : Int) := by omega
      have hB2 := bel_refl wr
      go_wp2_with fail
      (refine wp_region_bel (by kernel_rfl) (by kernel_rfl) ?_; have hD := bel_cells hB2; (repeat (go_big_quiet_step (((go_at_call 71; exact calls_bel (markTextZ ((k0 : Int) + (i : Int)) (k0 + i) _ (by omega) (by have := h0.out; omega) (by have := h1.out; have := hn.out; omega))))))); refine wpQuiet_nil ?_; intro w1 hB1; replace hB2 := bel_trans hB2 hB1; obtain ⟨hC1, hF1⟩ := bcell hB2; clear hD; replace hB1 := hB1)
      go_wp2
      go_roundw
      case rel => exact ⟨i + 1, by omega, by go_num, by go_num, by (repeat' (first | (with_reducible exact bel_refl _) | (with_reducible assumption) | (with_reducible refine bel_drew ?_) | (with_reducible refine bel_drewN ?_) | (with_reducible refine bel_alloc ?_) | (with_reducible refine bel_set ?_ ?_) | (with_reducible refine bel_trans ?_ (by with_reducible assumption)) | omega | (simp; done) | (simp; omega)))⟩
      case measure => simp [intOf]; omega
    · go_wp2
      go_ret
      have e : i = n := by omega
      subst e
      exact ⟨rfl, by (repeat' (first | (with_reducible exact bel_refl _) | (with_reducible assumption) | (with_reducible refine bel_drew ?_) | (with_reducible refine bel_drewN ?_) | (with_reducible refine bel_alloc ?_) | (with_reducible refine bel_set ?_ ?_) | (with_reducible refine bel_trans ?_ (by with_reducible assumption)) | omega | (simp; done) | (simp; omega)))⟩
end Go.Proofs.Ytfpbedcjdhbebaa

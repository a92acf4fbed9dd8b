/-
  The functions that the laws are made of, on lists of texts, walked: marks, comparisons.
-/
import Derived.Test.YtlffolfooiijhaaRows
import Derived.Test.YtlffolfooiijhaaMem
import Derived.Laws.IdiomStrings
namespace Go.Proofs.Ytlffolfooiijhaa
open Go.RowKit

def strs (xs : List ByteArray) : List Value := xs.map Value.string
theorem strs_len (xs : List ByteArray) : (strs xs).length = xs.length := by simp [strs]
theorem strs_get {xs : List ByteArray} {i : Nat} {x : ByteArray} (h : xs[i]? = some x) : (strs xs)[i]? = some (.string x) := by simp [strs, h]
theorem strs_snoc (xs : List ByteArray) (x : ByteArray) : strs xs ++ [.string x] = strs (xs ++ [x]) := by simp [strs]
theorem Sl.str_at {w : World} {A : Option Addr} {n c : Nat} {xs : List ByteArray} (h : Sl w 1 A n c (strs xs)) {i : Nat} {x : ByteArray} (hx : xs[i]? = some x) :
    ∃ b o, A = some ⟨b, o, none⟩ ∧ b < w.heap.size ∧ w.cell? ⟨b, o + i, none⟩ = some (.string x) := by
  have hi : i < xs.length := (List.getElem?_eq_some_iff.1 hx).1
  have hl := h.len
  rw [strs_len] at hl
  obtain ⟨b, o, rfl, hb, hc⟩ := h.at_ (by omega)
  exact ⟨b, o, rfl, hb, hc i _ (strs_get hx)⟩
theorem Sl.str_len {w : World} {A : Option Addr} {n c : Nat} {xs : List ByteArray} (h : Sl w 1 A n c (strs xs)) : xs.length = n := by
  have := h.len
  rw [strs_len] at this
  omega
theorem info_string : (Try.prog.info? 9).map (fun i => (i.zero, i.size, i.bytes)) = some (some (.string ⟨#[]⟩), 1, 16) := by kernel_rfl

def digB (q : Nat) : UInt8 := UInt8.ofNat (48 + q % 10)
theorem digB_nat (q : Nat) : (digB q).toNat = 48 + q % 10 := by
  simp [digB]
  omega
def digA (q : Nat) (s : List UInt8) : List UInt8 := if h : q = 0 then s else digA (q / 10) (digB q :: s)
termination_by q
decreasing_by omega
theorem digA_zero (s : List UInt8) : digA 0 s = s := by rw [digA]; simp
theorem digA_step {q : Nat} (s : List UInt8) (h : q ≠ 0) : digA q s = digA (q / 10) (digB q :: s) := by rw [digA, dif_neg h]
def bytesOf (t : List UInt8) : ByteArray := ⟨t.toArray⟩
theorem bytesOf_size (t : List UInt8) : (bytesOf t).size = t.length := by simp [bytesOf, ByteArray.size]
def markB (k : Nat) : ByteArray := bytesOf [109] ++ bytesOf (digA k [])
theorem small_sum {a b : ByteArray} (h : a.size + b.size ≤ 2147483648) : ¬ (a.size + b.size > 9223372036854775807) := by omega
theorem digit_text (q : Nat) (w : World) : (convert 35 9 (.slice (some ⟨w.heap.size, 0, none⟩) 1 1)).run Try.prog (w.alloc (.cells #[.int .u8 (48 + (q : Int) % 10)] 5)) = .ok (.string (bytesOf [digB q])) (w.alloc (.cells #[.int .u8 (48 + (q : Int) % 10)] 5)) := by
  refine run_convert_bytes_back _ _ _ 5 ⟨w.heap.size, 0, none⟩ 1 [digB q] Try.underlying35 Try.underlying5 Try.underlying9 fun j hj => ?_
  obtain rfl : j = 0 := by simp at hj; omega
  rw [Addr.add_lit, Nat.zero_add, World.cell?_alloc_mark]
  simp [digB_nat]
theorem grown_bel {w w1 w2 : World} {r : Option Nat} (h : w.grownBy w1 r) (hb : Below w1.heap.size w1 w2) : w.grownBy w2 r :=
  ⟨hb.os.trans h.os, hb.tape.trans h.tape, hb.output.trans h.output, Nat.le_trans h.size hb.size, fun i hi hne => (hb.block i (Nat.lt_of_lt_of_le hi h.size)).trans (h.block i hi hne)⟩
def marksT (k m : Nat) : List Value := (List.range m).map fun j => Value.string (markB (k + j))
theorem marksT_len (k m : Nat) : (marksT k m).length = m := by simp [marksT]
theorem marksT_get {k m j : Nat} (hj : j < m) : (marksT k m)[j]? = some (.string (markB (k + j))) := by simp [marksT, hj]
end Go.Proofs.Ytlffolfooiijhaa

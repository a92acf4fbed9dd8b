/-
  The functions that the laws are made of, on lists of lists of numbers, walked: comparisons, marks.
-/
import Derived.Test.YtlffolfooiijhaaMemSS
import Derived.Test.YtlffolfooiijhaaRostData
namespace Go.Proofs.Ytlffolfooiijhaa
open Go.RowKit

theorem mix_setL {α : Type} {F Z : List α} {v : α} {p : Nat} (hl : F.length = Z.length) (hv : F[p]? = some v) : (F.take p ++ Z.drop p).set p v = F.take (p + 1) ++ Z.drop (p + 1) := by
  have hp : p < F.length := (List.getElem?_eq_some_iff.1 hv).1
  have hpz : p < Z.length := by omega
  rw [List.take_add_one, hv, List.drop_eq_getElem_cons hpz]
  have hlen : (F.take p).length = p := by rw [List.length_take]; omega
  rw [List.set_append_right _ _ (by omega), hlen, Nat.sub_self, List.set_cons_zero]
  simp
theorem mix_getL {α : Type} {F Z : List α} {p : Nat} (hl : F.length = Z.length) (hp : p < Z.length) : (F.take p ++ Z.drop p)[p]? = Z[p]? := by
  rw [List.getElem?_append_right (by rw [List.length_take]; omega), List.length_take, Nat.min_eq_left (by omega), Nat.sub_self, List.getElem?_drop]
  simp
end Go.Proofs.Ytlffolfooiijhaa

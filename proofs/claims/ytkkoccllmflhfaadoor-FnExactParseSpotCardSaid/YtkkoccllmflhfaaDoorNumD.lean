/-
  The text of a number: the library's Itoa (by the shelf's contract) and the reference's, walked.
-/
import Derived.Test.YtkkoccllmflhfaaDoorRows
import Derived.Test.YtkkoccllmflhfaaDoorBase
import Derived.Shelf.Strconv.Itoa3
import Derived.Lib.ItoaLen
namespace Go.Proofs.YtkkoccllmflhfaaDoor
open Go.RowKit

def lays171_ren : Go.Shelf.Ren := ⟨fun | 171 => 26 | 243 => 30 | 246 => 40 | 283 => 49 | 284 => 50 | 285 => 51 | 286 => 52 | 129 => 65 | 317 => 64 | 318 => 66 | 319 => 67 | 320 => 68 | 337 => 74 | 338 => 75 | n => n, fun | 3 => 3 | 9 => 9 | 2 => 2 | 4 => 4 | 171 => 68 | 0 => 0 | 53 => 69 | 37 => 51 | 5 => 5 | 173 => 72 | 212 => 90 | 51 => 91 | 20 => 20 | 213 => 92 | 46 => 75 | 232 => 107 | 233 => 108 | n => n, fun | 17 => 3 | 18 => 6 | 19 => 7 | n => n⟩
theorem lays171 : Go.Proofs.LaysM.n171 Tryd.prog lays171_ren := {
  mixed := by kernel_rfl,
  f129 := Tryd.func65.trans (congrArg some (by kernel_rfl)),
  f171 := Tryd.func26.trans (congrArg some (by kernel_rfl)),
  f243 := Tryd.func30.trans (congrArg some (by kernel_rfl)),
  f246 := Tryd.func40.trans (congrArg some (by kernel_rfl)),
  f283 := Tryd.func49.trans (congrArg some (by kernel_rfl)),
  f284 := Tryd.func50.trans (congrArg some (by kernel_rfl)),
  f285 := Tryd.func51.trans (congrArg some (by kernel_rfl)),
  f286 := Tryd.func52.trans (congrArg some (by kernel_rfl)),
  f317 := Tryd.func64.trans (congrArg some (by kernel_rfl)),
  f318 := Tryd.func66.trans (congrArg some (by kernel_rfl)),
  f319 := Tryd.func67.trans (congrArg some (by kernel_rfl)),
  f320 := Tryd.func68.trans (congrArg some (by kernel_rfl)),
  f337 := Tryd.func74.trans (congrArg some (by kernel_rfl)),
  f338 := Tryd.func75.trans (congrArg some (by kernel_rfl)),
  t0 := Tryd.underlying0,
  a0 := Tryd.isAgg0,
  z0 := Tryd.sizeOf0,
  v0 := Tryd.zeroValue0,
  t2 := Tryd.underlying2,
  a2 := Tryd.isAgg2,
  z2 := Tryd.sizeOf2,
  v2 := Tryd.zeroValue2,
  t3 := Tryd.underlying3,
  a3 := Tryd.isAgg3,
  z3 := Tryd.sizeOf3,
  v3 := Tryd.zeroValue3,
  t4 := Tryd.underlying4,
  a4 := Tryd.isAgg4,
  z4 := Tryd.sizeOf4,
  v4 := Tryd.zeroValue4,
  t5 := Tryd.underlying5,
  a5 := Tryd.isAgg5,
  z5 := Tryd.sizeOf5,
  v5 := Tryd.zeroValue5,
  t9 := Tryd.underlying9,
  a9 := Tryd.isAgg9,
  z9 := Tryd.sizeOf9,
  v9 := Tryd.zeroValue9,
  t20 := Tryd.underlying20,
  a20 := Tryd.isAgg20,
  z20 := Tryd.sizeOf20,
  v20 := Tryd.zeroValue20,
  t37 := Tryd.underlying51,
  a37 := Tryd.isAgg51,
  z37 := Tryd.sizeOf51,
  v37 := Tryd.zeroValue51,
  t46 := Tryd.underlying75,
  a46 := Tryd.isAgg75,
  z46 := Tryd.sizeOf75,
  v46 := Tryd.zeroValue75,
  t51 := Tryd.underlying91,
  a51 := Tryd.isAgg91,
  z51 := Tryd.sizeOf91,
  v51 := Tryd.zeroValue91,
  t53 := Tryd.underlying69,
  a53 := Tryd.isAgg69,
  z53 := Tryd.sizeOf69,
  v53 := Tryd.zeroValue69,
  t171 := Tryd.underlying68,
  a171 := Tryd.isAgg68,
  z171 := Tryd.sizeOf68,
  v171 := Tryd.zeroValue68,
  t173 := Tryd.underlying72,
  a173 := Tryd.isAgg72,
  z173 := Tryd.sizeOf72,
  v173 := Tryd.zeroValue72,
  t212 := Tryd.underlying90,
  a212 := Tryd.isAgg90,
  z212 := Tryd.sizeOf90,
  v212 := Tryd.zeroValue90,
  t213 := Tryd.underlying92,
  a213 := Tryd.isAgg92,
  z213 := Tryd.sizeOf92,
  t232 := Tryd.underlying107,
  a232 := Tryd.isAgg107,
  z232 := Tryd.sizeOf107,
  v232 := Tryd.zeroValue107,
  t233 := Tryd.underlying108,
  a233 := Tryd.isAgg108,
  z233 := Tryd.sizeOf108,
  v233 := Tryd.zeroValue108,
  g17 := by kernel_rfl,
  g18 := by kernel_rfl,
  g19 := by kernel_rfl,
  i0 := by kernel_rfl,
  i2 := by kernel_rfl,
  i3 := by kernel_rfl,
  i4 := by kernel_rfl,
  i5 := by kernel_rfl,
  i9 := by kernel_rfl,
  i20 := by kernel_rfl,
  i37 := by kernel_rfl,
  i46 := by kernel_rfl,
  i51 := by kernel_rfl,
  i53 := by kernel_rfl,
  i171 := by kernel_rfl,
  i173 := by kernel_rfl,
  i212 := by kernel_rfl,
  i232 := by kernel_rfl,
  i233 := by kernel_rfl,
  m17 := by kernel_rfl,
  m18 := by kernel_rfl,
  m19 := by kernel_rfl }
def bytesOf (t : List UInt8) : ByteArray := ⟨t.toArray⟩
def numB (n : Int) : ByteArray := bytesOf (Lib.itoa n)
def Tab (w : World) : Prop := Lib.TabIs Tryd.prog w "internal/strconv.uint64pow10" .u64 Lib.pow10Tab
theorem bel_grow {w : World} (k : Nat) (os : Array Obj) : Below w.heap.size w (Go.Sort.grow (w.drewN k) os) :=
  ⟨rfl, rfl, rfl, by show w.heap.size ≤ (w.heap ++ os).size; rw [Array.size_append]; omega, fun j hj => by
    show (w.heap ++ os)[j]? = w.heap[j]?
    rw [Array.getElem?_append_left hj]⟩
theorem itoaI (n : Int) (w : World) (h0 : 0 ≤ n) (h1 : n ≤ 1000000) (hT : Tab w) :
    Calls Tryd.prog 14 #[.int .i64 n] w fun e w' => e = .returned (.string (numB n)) ∧ Below w.heap.size w w' := by
  go_enter Tryd.func14, Tryd.ntmps14
  go_wp2_with (go_at_call 26; refine (Any.strconv_Itoa lays171 n (by omega) (by omega) _ hT).mono ?_; rintro _ _ ⟨rfl, k, os, rfl⟩)
  go_ret
  exact ⟨rfl, bel_grow k os⟩
theorem bytesOf_size (t : List UInt8) : (bytesOf t).size = t.length := by simp [bytesOf, ByteArray.size]
theorem numB_small {m : Nat} (h : m < 10) : numB m = bytesOf [UInt8.ofNat (48 + m)] := by
  unfold numB Lib.itoa
  rw [if_neg (by omega), Int.toNat_natCast, Lib.decDigits_one h]
theorem numB_step {m : Nat} (h : ¬ m < 10) : numB m = numB ((m / 10 : Nat) : Int) ++ bytesOf [UInt8.ofNat (48 + m % 10)] := by
  unfold numB Lib.itoa
  rw [if_neg (by omega), if_neg (by omega), Int.toNat_natCast, Int.toNat_natCast, Lib.decDigits, dif_neg h]
  simp [bytesOf, ByteArray.ext_iff]
theorem dig_text : ∀ m : Nat, m < 10 → ByteArray.extract { data := #[48, 49, 50, 51, 52, 53, 54, 55, 56, 57] } m (m + 1) = bytesOf [UInt8.ofNat (48 + m)] := by decide
theorem l1Num (m : Nat) (w : World) (hm : m ≤ 1000000) :
    Calls Tryd.prog 23 #[.int .i64 m] w fun e w' => e = .returned (.string (numB m)) ∧ Below w.heap.size w w' := by
  induction m using Nat.strongRecOn generalizing w with
  | _ m ih =>
    have hm0 : ¬ (m : Int) < 0 := by omega
    have hm1 : (0 : Int) ≤ (m : Int) := by omega
    by_cases h10 : m < 10
    · have h10i : (m : Int) < 10 := by omega
      go_enter Tryd.func23, Tryd.ntmps23
      go_wp2_with fail
      go_ret
      exact ⟨by rw [numB_small h10, dig_text m h10]; rfl, bel_refl w⟩
    · have h10i : ¬ (m : Int) < 10 := by omega
      have hq : ((m / 10 : Nat) : Int) = (m : Int) / 10 := by omega
      have ih2 : ∀ w, Calls Tryd.prog 23 #[.int .i64 ((m : Int) / 10)] w fun e w' => e = .returned (.string (numB ((m : Int) / 10))) ∧ Below w.heap.size w w' := fun w => hq ▸ ih (m / 10) (by omega) w (by omega)
      have hstep := hid (numB_step h10)
      have hB2 := bel_refl w
      have r0 : (0 : Int) ≤ (m : Int) % 10 := by omega
      have r1 : (m : Int) % 10 + 1 ≤ 10 := by omega
      have hdg := dig_text (m % 10) (by omega)
      have hsz : ¬ ((numB ((m : Int) / 10)).size + (ByteArray.extract { data := #[48, 49, 50, 51, 52, 53, 54, 55, 56, 57] } (m % 10) (m % 10 + 1)).size > 9223372036854775807) := by
        rw [hdg, bytesOf_size, numB, bytesOf_size]
        have := Lib.itoa_length_le ((m : Int) / 10) (by omega) (by omega)
        simp only [List.length_cons, List.length_nil]
        omega
      replace hdg := hid hdg
      clear ih hq
      go_enter Tryd.func23, Tryd.ntmps23
      go_wp2_with fail
      (refine wp_region_bel (by kernel_rfl) (by kernel_rfl) ?_; have hD := bel_cells hB2; (repeat (go_big_quiet_step (((go_at_call 23; exact calls_bel (ih2 _)))))); refine wpQuiet_nil ?_; intro w1 hB1; replace hB2 := bel_trans hB2 hB1; obtain ⟨hC1, hF1⟩ := bcell hB2; clear hD; replace hB1 := hB1)
      go_wp2_with fail
      go_ret
      refine ⟨?_, hB2⟩
      rw [hstep.out, ← hdg.out]
      rfl
end Go.Proofs.YtkkoccllmflhfaaDoor

/-
  The text of a number: the library's Itoa (by the shelf's contract) and the reference's, walked.
-/
import Derived.Test.YtkkoccllmflhfaaGreatDoorRows
import Derived.Test.YtkkoccllmflhfaaGreatDoorBase
import Derived.Shelf.Strconv.Itoa3
import Derived.Lib.ItoaLen
namespace Go.Proofs.YtkkoccllmflhfaaGreatDoor
open Go.RowKit

def lays171_ren : Go.Shelf.Ren := ⟨fun | 171 => 42 | 243 => 51 | 246 => 62 | 283 => 71 | 284 => 72 | 285 => 73 | 286 => 74 | 129 => 87 | 317 => 86 | 318 => 88 | 319 => 89 | 320 => 90 | 337 => 96 | 338 => 97 | n => n, fun | 3 => 3 | 9 => 9 | 2 => 2 | 4 => 4 | 171 => 89 | 0 => 0 | 53 => 52 | 37 => 22 | 5 => 5 | 173 => 92 | 212 => 108 | 51 => 109 | 20 => 20 | 213 => 110 | 46 => 88 | 232 => 126 | 233 => 127 | n => n, fun | 17 => 3 | 18 => 6 | 19 => 7 | n => n⟩
theorem lays171 : Go.Proofs.LaysM.n171 Tryz.prog lays171_ren := {
  mixed := by kernel_rfl,
  f129 := Tryz.func87.trans (congrArg some (by kernel_rfl)),
  f171 := Tryz.func42.trans (congrArg some (by kernel_rfl)),
  f243 := Tryz.func51.trans (congrArg some (by kernel_rfl)),
  f246 := Tryz.func62.trans (congrArg some (by kernel_rfl)),
  f283 := Tryz.func71.trans (congrArg some (by kernel_rfl)),
  f284 := Tryz.func72.trans (congrArg some (by kernel_rfl)),
  f285 := Tryz.func73.trans (congrArg some (by kernel_rfl)),
  f286 := Tryz.func74.trans (congrArg some (by kernel_rfl)),
  f317 := Tryz.func86.trans (congrArg some (by kernel_rfl)),
  f318 := Tryz.func88.trans (congrArg some (by kernel_rfl)),
  f319 := Tryz.func89.trans (congrArg some (by kernel_rfl)),
  f320 := Tryz.func90.trans (congrArg some (by kernel_rfl)),
  f337 := Tryz.func96.trans (congrArg some (by kernel_rfl)),
  f338 := Tryz.func97.trans (congrArg some (by kernel_rfl)),
  t0 := Tryz.underlying0,
  a0 := Tryz.isAgg0,
  z0 := Tryz.sizeOf0,
  v0 := Tryz.zeroValue0,
  t2 := Tryz.underlying2,
  a2 := Tryz.isAgg2,
  z2 := Tryz.sizeOf2,
  v2 := Tryz.zeroValue2,
  t3 := Tryz.underlying3,
  a3 := Tryz.isAgg3,
  z3 := Tryz.sizeOf3,
  v3 := Tryz.zeroValue3,
  t4 := Tryz.underlying4,
  a4 := Tryz.isAgg4,
  z4 := Tryz.sizeOf4,
  v4 := Tryz.zeroValue4,
  t5 := Tryz.underlying5,
  a5 := Tryz.isAgg5,
  z5 := Tryz.sizeOf5,
  v5 := Tryz.zeroValue5,
  t9 := Tryz.underlying9,
  a9 := Tryz.isAgg9,
  z9 := Tryz.sizeOf9,
  v9 := Tryz.zeroValue9,
  t20 := Tryz.underlying20,
  a20 := Tryz.isAgg20,
  z20 := Tryz.sizeOf20,
  v20 := Tryz.zeroValue20,
  t37 := Tryz.underlying22,
  a37 := Tryz.isAgg22,
  z37 := Tryz.sizeOf22,
  v37 := Tryz.zeroValue22,
  t46 := Tryz.underlying88,
  a46 := Tryz.isAgg88,
  z46 := Tryz.sizeOf88,
  v46 := Tryz.zeroValue88,
  t51 := Tryz.underlying109,
  a51 := Tryz.isAgg109,
  z51 := Tryz.sizeOf109,
  v51 := Tryz.zeroValue109,
  t53 := Tryz.underlying52,
  a53 := Tryz.isAgg52,
  z53 := Tryz.sizeOf52,
  v53 := Tryz.zeroValue52,
  t171 := Tryz.underlying89,
  a171 := Tryz.isAgg89,
  z171 := Tryz.sizeOf89,
  v171 := Tryz.zeroValue89,
  t173 := Tryz.underlying92,
  a173 := Tryz.isAgg92,
  z173 := Tryz.sizeOf92,
  v173 := Tryz.zeroValue92,
  t212 := Tryz.underlying108,
  a212 := Tryz.isAgg108,
  z212 := Tryz.sizeOf108,
  v212 := Tryz.zeroValue108,
  t213 := Tryz.underlying110,
  a213 := Tryz.isAgg110,
  z213 := Tryz.sizeOf110,
  t232 := Tryz.underlying126,
  a232 := Tryz.isAgg126,
  z232 := Tryz.sizeOf126,
  v232 := Tryz.zeroValue126,
  t233 := Tryz.underlying127,
  a233 := Tryz.isAgg127,
  z233 := Tryz.sizeOf127,
  v233 := Tryz.zeroValue127,
  g17 := by kernel_rfl,
  g18 := by kernel_rfl,
  g19 := by kernel_rfl,
  i0 := by kernel_rfl,
  i2 := by kernel_rfl,
  i3 := by kernel_rfl,
  i4 := by kernel_rfl,
  i5 := by kernel_rfl,
  i9 := by kernel_rfl,
  i20 := by kernel_rfl,
  i37 := by kernel_rfl,
  i46 := by kernel_rfl,
  i51 := by kernel_rfl,
  i53 := by kernel_rfl,
  i171 := by kernel_rfl,
  i173 := by kernel_rfl,
  i212 := by kernel_rfl,
  i232 := by kernel_rfl,
  i233 := by kernel_rfl,
  m17 := by kernel_rfl,
  m18 := by kernel_rfl,
  m19 := by kernel_rfl }

def bytesOf (t : List UInt8) : ByteArray := ⟨t.toArray⟩
def numB (n : Int) : ByteArray := bytesOf (Lib.itoa n)
def Tab (w : World) : Prop := Lib.TabIs Tryz.prog w "internal/strconv.uint64pow10" .u64 Lib.pow10Tab
theorem bel_grow {w : World} (k : Nat) (os : Array Obj) : Below w.heap.size w (Go.Sort.grow (w.drewN k) os) :=
  ⟨rfl, rfl, rfl, by show w.heap.size ≤ (w.heap ++ os).size; rw [Array.size_append]; omega, fun j hj => by
    show (w.heap ++ os)[j]? = w.heap[j]?
    rw [Array.getElem?_append_left hj]⟩
theorem itoaI (n : Int) (w : World) (h0 : 0 ≤ n) (h1 : n ≤ 1000000) (hT : Tab w) :
    Calls Tryz.prog 21 #[.int .i64 n] w fun e w' => e = .returned (.string (numB n)) ∧ Below w.heap.size w w' := by
  go_enter Tryz.func21, Tryz.ntmps21
  go_wp2_with (go_at_call 42; refine (Any.strconv_Itoa lays171 n (by omega) (by omega) _ hT).mono ?_; rintro _ _ ⟨rfl, k, os, rfl⟩)
  go_ret
  exact ⟨rfl, bel_grow k os⟩
theorem bytesOf_size (t : List UInt8) : (bytesOf t).size = t.length := by simp [bytesOf, ByteArray.size]
theorem numB_small {m : Nat} (h : m < 10) : numB m = bytesOf [UInt8.ofNat (48 + m)] := by
  unfold numB Lib.itoa
  rw [if_neg (by omega), Int.toNat_natCast, Lib.decDigits_one h]
theorem numB_step {m : Nat} (h : ¬ m < 10) : numB m = numB ((m / 10 : Nat) : Int) ++ bytesOf [UInt8.ofNat (48 + m % 10)] := by
  unfold numB Lib.itoa
  rw [if_neg (by omega), if_neg (by omega), Int.toNat_natCast, Int.toNat_natCast, Lib.decDigits, dif_neg h]
  simp [bytesOf, ByteArray.ext_iff]
theorem dig_text : ∀ m : Nat, m < 10 → ByteArray.extract { data := #[48, 49, 50, 51, 52, 53, 54, 55, 56, 57] } m (m + 1) = bytesOf [UInt8.ofNat (48 + m)] := by decide
theorem l1Num (m : Nat) (w : World) (hm : m ≤ 1000000) :
    Calls Tryz.prog 46 #[.int .i64 m] w fun e w' => e = .returned (.string (numB m)) ∧ Below w.heap.size w w' := by
  induction m using Nat.strongRecOn generalizing w with
  | _ m ih =>
    have hm0 : ¬ (m : Int) < 0 := by omega
    have hm1 : (0 : Int) ≤ (m : Int) := by omega
    by_cases h10 : m < 10
    · have h10i : (m : Int) < 10 := by omega
      go_enter Tryz.func46, Tryz.ntmps46
      go_wp2_with fail
      go_ret
      exact ⟨by rw [numB_small h10, dig_text m h10]; rfl, bel_refl w⟩
    · have h10i : ¬ (m : Int) < 10 := by omega
      have hq : ((m / 10 : Nat) : Int) = (m : Int) / 10 := by omega
      have ih2 : ∀ w, Calls Tryz.prog 46 #[.int .i64 ((m : Int) / 10)] w fun e w' => e = .returned (.string (numB ((m : Int) / 10))) ∧ Below w.heap.size w w' := fun w => hq ▸ ih (m / 10) (by omega) w (by omega)
      have hstep := hid (numB_step h10)
      have hB2 := bel_refl w
      have r0 : (0 : Int) ≤ (m : Int) % 10 := by omega
      have r1 : (m : Int) % 10 + 1 ≤ 10 := by omega
      have hdg := dig_text (m % 10) (by omega)
      have hsz : ¬ ((numB ((m : Int) / 10)).size + (ByteArray.extract { data := #[48, 49, 50, 51, 52, 53, 54, 55, 56, 57] } (m % 10) (m % 10 + 1)).size > 9223372036854775807) := by
        rw [hdg, bytesOf_size, numB, bytesOf_size]
        have := Lib.itoa_length_le ((m : Int) / 10) (by omega) (by omega)
        simp only [List.length_cons, List.length_nil]
        omega
      replace hdg := hid hdg
      clear ih hq
      go_enter Tryz.func46, Tryz.ntmps46
      go_wp2_with fail
      (refine wp_region_bel (by kernel_rfl) (by kernel_rfl) ?_; have hD := bel_cells hB2; (repeat (go_big_quiet_step (((go_at_call 46; exact calls_bel (ih2 _)))))); refine wpQuiet_nil ?_; intro w1 hB1; replace hB2 := bel_trans hB2 hB1; obtain ⟨hC1, hF1⟩ := bcell hB2; clear hD; replace hB1 := hB1)
      go_wp2_with fail
      go_ret
      refine ⟨?_, hB2⟩
      rw [hstep.out, ← hdg.out]
      rfl
end Go.Proofs.YtkkoccllmflhfaaGreatDoor

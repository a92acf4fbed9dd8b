/-
  What the laws on roads draw: walked.
-/
import Derived.Test.YtfimchbjpambfaaRoadDraw
namespace Go.Proofs.Ytfimchbjpambfaa
open Go.RowKit

theorem code_start {W : World} {A : Option Addr} {n c : Nat} {B : Nat} {w : World} (hb : Below W.heap.size W w) : Cur W w.heap.size A n c B (w.alloc (.cells #[.slice A n c, .int .i64 0, .int .u64 0] 54)) :=
  ⟨bel_alloc hb, hb.size, 0, 0, heap_alloc_new w _, by omega, by omega, by omega⟩
theorem drawArrivals (A : Option Addr) (n c : Nat) (cs : List Int) (w : World) (hC : Code w A n c cs) :
    Calls Try.prog 6 #[.slice A n c] w fun e w' => ∃ (p : Int) (A' : Option Addr) (m c' : Nat) (xs : List Road) (f v : Int), e = .returned (.tuple #[.int .i64 p, .slice A' m c', .int .i64 f, .int .i64 v]) ∧ (1 ≤ p ∧ p ≤ 9) ∧ Own w.heap.size w'.heap.size w' 39 4 A' m c' (xs.flatMap Road.row) ∧ m ≤ 13 ∧ (-1 ≤ f ∧ f ≤ 1000) ∧ (-1 ≤ v ∧ v ≤ 1000) ∧ Below w.heap.size w w' := by
  go_enter Try.func6, Try.ntmps6
  go_wp2_with fail; refine (networkC w w.heap.size A n c cs 0 _ hC (code_start (bel_refl w)) (by omega)).mono ?_; rintro _ w1 ⟨p, A', m, c', xs, rfl, hp, hO, hm, hc1, hg1⟩; replace hO := hO.own; go_wp2_with fail
  refine (placeInC w w.heap.size A n c cs _ p _ hC hc1 (by omega) (by omega)).mono ?_; rintro _ w2 ⟨f, rfl, hf, hc2, hg2⟩; replace hO := own_gro hO hg2 (by simp); go_wp2_with fail
  refine (roadMinuteC w w.heap.size A n c cs _ _ hC hc2 (by omega)).mono ?_
  rintro _ w3 ⟨v, rfl, hv, hc3, hg3⟩
  replace hO := own_gro hO hg3 (by simp)
  go_wp2_with fail
  refine bodyPost_ret (v := .tuple #[.int .i64 p, .slice A' m c', .int .i64 f, .int .i64 v]) (by simp [results, Try.results6, go_sem]) rfl ⟨p, A', m, c', xs, f, v, rfl, hp, Own.mk_ (own_low hO (by simp)), hm, hf, hv, hc3.bel⟩
theorem drawDepartures (A : Option Addr) (n c : Nat) (cs : List Int) (w : World) (hC : Code w A n c cs) :
    Calls Try.prog 13 #[.slice A n c] w fun e w' => ∃ (p : Int) (A' : Option Addr) (m c' : Nat) (xs : List Road) (f : Int), e = .returned (.tuple #[.int .i64 p, .slice A' m c', .int .i64 f]) ∧ (1 ≤ p ∧ p ≤ 9) ∧ Own w.heap.size w'.heap.size w' 39 4 A' m c' (xs.flatMap Road.row) ∧ m ≤ 13 ∧ (-1 ≤ f ∧ f ≤ 1000) ∧ Below w.heap.size w w' := by
  go_enter Try.func13, Try.ntmps13
  go_wp2_with fail
  refine (drawArrivals A n c cs w hC).mono ?_
  rintro _ w1 ⟨p, A', m, c', xs, f, v, rfl, hp, hO, hm, hf, hv, hb⟩
  go_wp2_with fail
  go_ret3
  exact ⟨p, A', m, c', xs, f, rfl, hp, hO, hm, hf, hb⟩
theorem drawTrip (A : Option Addr) (n c : Nat) (cs : List Int) (w : World) (hC : Code w A n c cs) :
    Calls Try.prog 15 #[.slice A n c] w fun e w' => ∃ (p : Int) (A' : Option Addr) (m c' : Nat) (xs : List Road) (f t v : Int), e = .returned (.tuple #[.int .i64 p, .slice A' m c', .int .i64 f, .int .i64 t, .int .i64 v]) ∧ (1 ≤ p ∧ p ≤ 9) ∧ Own w.heap.size w'.heap.size w' 39 4 A' m c' (xs.flatMap Road.row) ∧ m ≤ 13 ∧ (-1 ≤ f ∧ f ≤ 1000) ∧ (-1 ≤ t ∧ t ≤ 1000) ∧ (-1 ≤ v ∧ v ≤ 1000) ∧ Below w.heap.size w w' := by
  go_enter Try.func15, Try.ntmps15
  go_wp2_with fail; refine (networkC w w.heap.size A n c cs 0 _ hC (code_start (bel_refl w)) (by omega)).mono ?_; rintro _ w1 ⟨p, A', m, c', xs, rfl, hp, hO, hm, hc1, hg1⟩; replace hO := hO.own; go_wp2_with fail
  refine (placeInC w w.heap.size A n c cs _ p _ hC hc1 (by omega) (by omega)).mono ?_; rintro _ w2 ⟨f, rfl, hf, hc2, hg2⟩; replace hO := own_gro hO hg2 (by simp); go_wp2_with fail
  refine (placeInC w w.heap.size A n c cs _ p _ hC hc2 (by omega) (by omega)).mono ?_
  rintro _ w3 ⟨t, rfl, ht, hc3, hg3⟩
  replace hO := own_gro hO hg3 (by simp)
  go_wp2_with fail
  refine (roadMinuteC w w.heap.size A n c cs _ _ hC hc3 (by omega)).mono ?_
  rintro _ w4 ⟨v, rfl, hv, hc4, hg4⟩
  replace hO := own_gro hO hg4 (by simp)
  go_wp2_with fail
  refine bodyPost_ret (v := .tuple #[.int .i64 p, .slice A' m c', .int .i64 f, .int .i64 t, .int .i64 v]) (by simp [results, Try.results15, go_sem]) rfl ⟨p, A', m, c', xs, f, t, v, rfl, hp, Own.mk_ (own_low hO (by simp)), hm, hf, ht, hv, hc4.bel⟩
theorem drawKey (A : Option Addr) (n c : Nat) (cs : List Int) (w : World) (hC : Code w A n c cs) :
    Calls Try.prog 29 #[.slice A n c] w fun e w' => ∃ (p : Int) (A' : Option Addr) (m c' : Nat) (xs : List Road) (f t v : Int), e = .returned (.tuple #[.int .i64 p, .slice A' m c', .int .i64 f, .int .i64 t, .int .i64 v]) ∧ (1 ≤ p ∧ p ≤ 9) ∧ Own w.heap.size w'.heap.size w' 39 4 A' m c' (xs.flatMap Road.row) ∧ m ≤ 13 ∧ (-1 ≤ f ∧ f ≤ 1000) ∧ (-1 ≤ t ∧ t ≤ 1000) ∧ (-1 ≤ v ∧ v ≤ 1000) ∧ Below w.heap.size w w' := by
  go_enter Try.func29, Try.ntmps29
  go_wp2_with fail
  refine (drawTrip A n c cs w hC).mono ?_
  rintro _ w1 ⟨p, A', m, c', xs, f, t, v, rfl, hr⟩
  go_wp2_with fail
  exact bodyPost_ret (v := .tuple #[.int .i64 p, .slice A' m c', .int .i64 f, .int .i64 t, .int .i64 v]) (by simp [results, Try.results29, go_sem]) rfl ⟨p, A', m, c', xs, f, t, v, rfl, hr⟩
theorem drawOpen (A : Option Addr) (n c : Nat) (cs : List Int) (w : World) (hC : Code w A n c cs) :
    Calls Try.prog 18 #[.slice A n c] w fun e w' => ∃ (p : Int) (A' : Option Addr) (m c' : Nat) (xs : List Road) (v : Int), e = .returned (.tuple #[.int .i64 p, .slice A' m c', .int .i64 v]) ∧ (1 ≤ p ∧ p ≤ 9) ∧ Own w.heap.size w'.heap.size w' 39 4 A' m c' (xs.flatMap Road.row) ∧ m ≤ 13 ∧ (-1 ≤ v ∧ v ≤ 1000) ∧ Below w.heap.size w w' := by
  go_enter Try.func18, Try.ntmps18
  go_wp2_with fail; refine (networkC w w.heap.size A n c cs 0 _ hC (code_start (bel_refl w)) (by omega)).mono ?_; rintro _ w1 ⟨p, A', m, c', xs, rfl, hp, hO, hm, hc1, hg1⟩; replace hO := hO.own; go_wp2_with fail
  refine (roadMinuteC w w.heap.size A n c cs _ _ hC hc1 (by omega)).mono ?_
  rintro _ w4 ⟨v, rfl, hv, hc4, hg4⟩
  replace hO := own_gro hO hg4 (by simp)
  go_wp2_with fail
  go_ret3
  exact ⟨p, A', m, c', xs, v, rfl, hp, Own.mk_ (own_low hO (by simp)), hm, hv, hc4.bel⟩
end Go.Proofs.Ytfimchbjpambfaa

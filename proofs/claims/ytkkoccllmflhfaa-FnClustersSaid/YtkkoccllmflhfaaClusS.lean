/-
  The clusters of hot spots, the reference's way: plain.
-/
import Derived.Test.YtkkoccllmflhfaaClusIW
import Derived.Test.YtkkoccllmflhfaaPutS
namespace Go.Proofs.Ytkkoccllmflhfaa
open Go.RowKit

theorem nats_mem {S : List Nat} {k : Nat} : (k : Int) ∈ nats S ↔ k ∈ S := by
  simp only [nats, List.mem_map]
  constructor
  · rintro ⟨x, hx, he⟩
    have : x = k := by omega
    subst this
    exact hx
  · exact fun h => ⟨k, h, rfl⟩
/-- A number that is not there yet, put to its place. -/
theorem put_nats {S : List Nat} {k : Nat} {ys : List Int} (hS : S.Pairwise (· < ·)) (hk : k ∉ S) (h : PutR k (nats S) ys) : ∃ T, ys = nats T ∧ T.Pairwise (· < ·) ∧ T.length = S.length + 1 ∧ ∀ x, x ∈ T ↔ x ∈ S ∨ x = k := by
  obtain ⟨i, hi, hlo, h | ⟨hhi, rfl⟩⟩ := h
  · exact absurd (nats_mem.1 (List.mem_of_getElem? h.1)) hk
  · have hl : (nats S).length = S.length := nats_len S
    refine ⟨S.take i ++ k :: S.drop i, by simp [nats, List.map_take, List.map_drop], ?_, ?_, fun x => ?_⟩
    · rw [List.pairwise_append, List.pairwise_cons]
      refine ⟨hS.sublist (List.take_sublist _ _), ⟨fun b hb => ?_, hS.sublist (List.drop_sublist _ _)⟩, fun a ha b hb => ?_⟩
      · obtain ⟨j, hj⟩ := List.getElem?_of_mem hb
        rw [List.getElem?_drop] at hj
        have hil : i < S.length := by have := (List.getElem?_eq_some_iff.1 hj).1; omega
        obtain ⟨c, hc⟩ : ∃ c, S[i]? = some c := get_of_lt hil
        have h1 := hhi c (nats_get hc)
        rcases Nat.eq_zero_or_pos j with h2 | h2
        · subst h2
          rw [Nat.add_zero, hc] at hj
          cases hj
          omega
        · have h3 := List.pairwise_iff_getElem.1 hS i (i + j) hil (List.getElem?_eq_some_iff.1 hj).1 (by omega)
          rw [(List.getElem?_eq_some_iff.1 hc).2, (List.getElem?_eq_some_iff.1 hj).2] at h3
          omega
      · obtain ⟨j, hj⟩ := List.getElem?_of_mem ha
        rw [List.getElem?_take] at hj
        split at hj
        · rename_i hji
          have h1 := hlo j a hji (nats_get hj)
          rw [List.mem_cons] at hb
          rcases hb with rfl | hb
          · omega
          · obtain ⟨q, hq⟩ := List.getElem?_of_mem hb
            rw [List.getElem?_drop] at hq
            have h3 := List.pairwise_iff_getElem.1 hS j (i + q) (List.getElem?_eq_some_iff.1 hj).1 (List.getElem?_eq_some_iff.1 hq).1 (by omega)
            rw [(List.getElem?_eq_some_iff.1 hj).2, (List.getElem?_eq_some_iff.1 hq).2] at h3
            exact h3
        · cases hj
    · rw [List.length_append, List.length_cons, List.length_take, List.length_drop]
      omega
    · have e : x ∈ S ↔ x ∈ S.take i ∨ x ∈ S.drop i := by rw [← List.mem_append, List.take_append_drop]
      rw [List.mem_append, List.mem_cons, e]
      constructor
      · rintro (h | h | h)
        · exact Or.inl (Or.inl h)
        · exact Or.inr h
        · exact Or.inl (Or.inr h)
      · rintro ((h | h) | h)
        · exact Or.inl h
        · exact Or.inr (Or.inr h)
        · exact Or.inr (Or.inl h)
/-- What holds in the reference's search: S the set so far; where nothing is new, what is near one of it below k lies in it. -/
structure Grow (xs : List Hotspot) (i L k : Nat) (more : Bool) (S : List Nat) : Prop where
  rise : S.Pairwise (· < ·)
  mem : ∀ x ∈ S, x < xs.length ∧ Rch xs i x
  first : i ∈ S
  len : L ≤ S.length
  more_ : more = true → L < S.length
  still : more = false → ∀ x ∈ S, ∀ m, m < k → nearI xs x m = true → m ∈ S
section
variable {xs : List Hotspot} {i L k : Nat} {more : Bool} {S : List Nat}
theorem grow_len (h : Grow xs i L k more S) : S.length ≤ xs.length := nodup_len _ S (h.rise.imp fun h => by omega) fun x hx => (h.mem x hx).1
theorem grow_one (hi : i < xs.length) : Grow xs i 1 0 false [i] :=
  ⟨by simp, fun x hx => by simp only [List.mem_singleton] at hx; subst hx; exact ⟨hi, .refl _⟩, by simp, by simp, fun h => Bool.noConfusion h, fun _ _ _ m hm => absurd hm (by omega)⟩
theorem grow_again (h : Grow xs i L k more S) : Grow xs i S.length 0 false S :=
  ⟨h.rise, h.mem, h.first, Nat.le_refl _, fun h => Bool.noConfusion h, fun _ _ _ m hm => absurd hm (by omega)⟩
/-- One that is near none, or there already. -/
theorem grow_skip (h : Grow xs i L k more S) (hs : (∃ x ∈ S, nearI xs x k = true) → k ∈ S) : Grow xs i L (k + 1) more S :=
  ⟨h.rise, h.mem, h.first, h.len, h.more_, fun hm x hx m hmk hn => by
    rcases Nat.lt_or_ge m k with h1 | h1
    · exact h.still hm x hx m h1 hn
    · obtain rfl : m = k := by omega
      exact hs ⟨x, hx, hn⟩⟩
theorem grow_add (h : Grow xs i L k more S) {x : Nat} (hx : x ∈ S) (hn : nearI xs x k = true) (hk : k ∉ S) {ys : List Int} (hp : PutR k (nats S) ys) : ∃ T, ys = nats T ∧ T.length = S.length + 1 ∧ Grow xs i L (k + 1) true T := by
  obtain ⟨T, rfl, hT, hl, hm⟩ := put_nats h.rise hk hp
  refine ⟨T, rfl, hl, hT, fun y hy => ?_, (hm i).2 (Or.inl h.first), by have := h.len; omega, fun _ => by have := h.len; omega, fun h => Bool.noConfusion h⟩
  rcases (hm y).1 hy with h1 | rfl
  · exact h.mem y h1
  · exact ⟨(nearI_lt hn).2, (h.mem x hx).2.step hn⟩
theorem grow_end (h : Grow xs i L xs.length false S) : S = comp xs i :=
  rising_comp h.rise h.first h.mem fun x hx k hk => h.still rfl x hx k (nearI_lt hk).2 hk
end
end Go.Proofs.Ytkkoccllmflhfaa

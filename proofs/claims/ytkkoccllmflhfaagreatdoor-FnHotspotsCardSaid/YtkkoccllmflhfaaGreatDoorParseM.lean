/-
  Numerals read back, words of a text, the text of a hot spot taken apart: plainly.
-/
import Derived.Test.YtkkoccllmflhfaaGreatDoorSpotTxt
import Derived.Lib.Atoi
import Derived.Lib.Replace
namespace Go.Proofs.YtkkoccllmflhfaaGreatDoor
open Go.RowKit

/-! ### Numerals -/
theorem decFrom_append (a : Nat) (l : List UInt8) (b : UInt8) (d : Nat) (n : Nat) (h : Lib.decFrom a l = some n) (hd : Lib.digitVal b = some d) : Lib.decFrom a (l ++ [b]) = some (n * 10 + d) := by
  induction l generalizing a with
  | nil =>
    simp only [Lib.decFrom, Option.some.injEq] at h
    subst h
    simp [Lib.decFrom, hd]
  | cons c l ih =>
    simp only [List.cons_append, Lib.decFrom] at h ⊢
    cases hc : Lib.digitVal c with
    | none => rw [hc] at h; cases h
    | some e =>
      rw [hc] at h
      exact ih _ h
theorem digit_val {d : Nat} (h : d < 10) : Lib.digitVal (UInt8.ofNat (48 + d)) = some d := by
  have e : (UInt8.ofNat (48 + d)).toNat = 48 + d := by simp; omega
  unfold Lib.digitVal
  rw [e, if_pos (by omega)]
  congr 1
  omega
theorem dec_read (m : Nat) : Lib.decFrom 0 (Lib.decDigits m) = some m := by
  induction m using Nat.strongRecOn with
  | _ m ih =>
    rw [Lib.decDigits]
    split
    · rename_i h
      simp only [Lib.decFrom, digit_val h]
      simp
    · rename_i h
      rw [decFrom_append 0 _ _ _ _ (ih (m / 10) (by omega)) (digit_val (Nat.mod_lt _ (by omega)))]
      congr 1
      omega
theorem dec_byte (m : Nat) : ∀ b ∈ Lib.decDigits m, 48 ≤ b.toNat ∧ b.toNat ≤ 57 := by
  induction m using Nat.strongRecOn with
  | _ m ih =>
    intro b hb
    rw [Lib.decDigits] at hb
    split at hb
    · rename_i h
      simp only [List.mem_singleton] at hb
      subst hb
      simp
      omega
    · rename_i h
      rw [List.mem_append, List.mem_singleton] at hb
      rcases hb with hb | rfl
      · exact ih (m / 10) (by omega) b hb
      · have : m % 10 < 10 := Nat.mod_lt _ (by omega)
        simp
        omega
theorem dec_ne (m : Nat) : Lib.decDigits m ≠ [] := by
  rw [Lib.decDigits]
  split <;> simp
theorem dec_len (m : Nat) : ∀ k, 0 < k → m < 10 ^ k → (Lib.decDigits m).length ≤ k := by
  induction m using Nat.strongRecOn with
  | _ m ih =>
    intro k hk hm
    rw [Lib.decDigits]
    split
    · simp; omega
    · rename_i h
      rw [List.length_append, List.length_singleton]
      have hk2 : 1 < k := by
        rcases Nat.lt_or_ge 1 k with h1 | h1
        · exact h1
        · have : k = 1 := by omega
          subst this
          simp at hm
          omega
      have := ih (m / 10) (by omega) (k - 1) (by omega) (by
        have e : 10 ^ k = 10 ^ (k - 1) * 10 := by rw [← Nat.pow_succ]; congr 1; omega
        omega)
      omega
theorem itoa_nat (n : Int) (h : 0 ≤ n) : Lib.itoa n = Lib.decDigits n.toNat := by rw [Lib.itoa, if_neg (by omega)]
theorem numB_data (n : Int) (h : 0 ≤ n) : (numB n).data.toList = Lib.decDigits n.toNat := by rw [numB, itoa_nat n h]; rfl
theorem atoi_numB (n : Int) (h : 0 ≤ n) : Lib.atoi (numB n).data.toList = some n := by
  rw [numB_data n h]
  obtain ⟨m, rfl⟩ := Int.eq_ofNat_of_zero_le h
  rw [Int.toNat_natCast]
  have h1 := dec_byte m
  have h2 := dec_read m
  cases hd : Lib.decDigits m with
  | nil => exact absurd hd (dec_ne m)
  | cons b r =>
    rw [hd] at h1 h2
    have hb := h1 b (by simp)
    have e1 : ¬ (b == 45) = true := fun e => by have := beq_iff_eq.1 e; subst this; simp at hb
    have e2 : ¬ (b == 43) = true := fun e => by have := beq_iff_eq.1 e; subst this; simp at hb
    simp only [Lib.atoi]
    rw [if_neg e1, if_neg e2, Lib.decNat]
    simp [h2]
theorem numB_inj {a b : Int} (ha : 0 ≤ a) (hb : 0 ≤ b) (h : numB a = numB b) : a = b := by
  have h1 := atoi_numB a ha
  rw [h, atoi_numB b hb] at h1
  exact (Option.some.inj h1).symm
theorem numB_len {n : Int} (h : 0 ≤ n) {k : Nat} (hk : 0 < k) (hn : n < (10 ^ k : Nat)) : (numB n).size ≤ k := by
  have e : (numB n).size = (Lib.decDigits n.toNat).length := by rw [numB, bytesOf_size, itoa_nat n h]
  rw [e]
  exact dec_len _ k hk (by omega)
/-! ### Words -/
/-- A text cut at every c; what is gathered so far stands ahead. -/
def splitA (c : UInt8) : List UInt8 → List UInt8 → List (List UInt8)
  | acc, [] => [acc]
  | acc, b :: r => if b = c then acc :: splitA c [] r else splitA c (acc ++ [b]) r
theorem splitA_go {c : UInt8} : ∀ (p acc r : List UInt8), c ∉ p → splitA c acc (p ++ c :: r) = (acc ++ p) :: splitA c [] r
  | [], acc, r, _ => by simp [splitA]
  | b :: p, acc, r, h => by
    have hb : ¬ b = c := fun e => h (by simp [e])
    rw [List.cons_append, splitA, if_neg hb, splitA_go p _ r (fun e => h (by simp [e]))]
    simp
theorem splitA_end {c : UInt8} : ∀ (p acc : List UInt8), c ∉ p → splitA c acc p = [acc ++ p]
  | [], acc, _ => by simp [splitA]
  | b :: p, acc, h => by
    have hb : ¬ b = c := fun e => h (by simp [e])
    rw [splitA, if_neg hb, splitA_end p _ (fun e => h (by simp [e]))]
    simp
theorem index_no {c : UInt8} : ∀ (p : List UInt8), c ∉ p → Lib.index p [c] = -1
  | [], _ => rfl
  | b :: p, h => by
    have hb : ¬ c = b := fun e => h (by simp [e])
    rw [Lib.index, index_no p (fun e => h (by simp [e]))]
    simp [List.isPrefixOf, hb]
theorem index_yes {c : UInt8} : ∀ (p r : List UInt8), c ∉ p → Lib.index (p ++ c :: r) [c] = p.length
  | [], r, _ => by
    rw [List.nil_append, Lib.index]
    simp [List.isPrefixOf]
  | b :: p, r, h => by
    have hb : ¬ c = b := fun e => h (by simp [e])
    rw [List.cons_append, Lib.index, index_yes p r (fun e => h (by simp [e]))]
    have h1 : ¬ ((p.length : Int) == -1) = true := fun e => by have := beq_iff_eq.1 e; omega
    rw [if_neg (by simp [List.isPrefixOf, hb]), if_neg h1]
    simp
theorem first_at {c : UInt8} : ∀ (s : List UInt8), c ∈ s → ∃ p r, s = p ++ c :: r ∧ c ∉ p
  | [], h => by simp at h
  | b :: s, h => by
    by_cases e : b = c
    · exact ⟨[], s, by rw [e]; rfl, by simp⟩
    · have hs : c ∈ s := by
        rw [List.mem_cons] at h
        rcases h with h | h
        · exact absurd h.symm e
        · exact h
      obtain ⟨p, r, hp, hn⟩ := first_at s hs
      refine ⟨b :: p, r, by rw [hp]; rfl, ?_⟩
      rw [List.mem_cons]
      rintro (h1 | h1)
      · exact e h1.symm
      · exact hn h1
theorem count_one {c : UInt8} {p r : List UInt8} (h : c ∉ p) : Lib.count (p ++ c :: r) [c] = 1 + Lib.count r [c] := by
  rw [Lib.count_hit (by simp) (index_yes p r h)]
  simp
theorem count_none {c : UInt8} {p : List UInt8} (h : c ∉ p) : Lib.count p [c] = 0 := Lib.count_miss (index_no p h)
theorem drop_after {c : UInt8} (p r : List UInt8) (k : Nat) (hk : k = p.length + 1) : (p ++ c :: r).drop k = r := by
  subst hk
  simp
theorem split_eq {c : UInt8} : ∀ (n : Nat) (s : List UInt8), s.length ≤ n → Lib.splitK [c] 0 (Lib.count s [c]) s = splitA c [] s := by
  intro n
  induction n with
  | zero =>
    intro s hs
    have e : s = [] := List.length_eq_zero_iff.1 (by omega)
    subst e
    rw [count_none (by simp)]
    rfl
  | succ n ih =>
    intro s hs
    by_cases hc : c ∈ s
    · obtain ⟨p, r, rfl, hp⟩ := first_at s hc
      rw [count_one hp, Nat.add_comm, Lib.splitK, index_yes p r hp]
      have h1 : ¬ ((p.length : Int) == -1) = true := fun e => by have := beq_iff_eq.1 e; omega
      rw [if_neg h1, splitA_go p [] r hp, Int.toNat_natCast, drop_after p r _ (by simp), ih r (by simp at hs; omega)]
      simp
    · rw [count_none hc, splitA_end s [] hc]
      rfl
def sub1 (c d : UInt8) (s : List UInt8) : List UInt8 := s.map fun b => if b = c then d else b
theorem sub1_no {c d : UInt8} {s : List UInt8} (h : c ∉ s) : sub1 c d s = s := by
  unfold sub1
  conv => rhs; rw [← List.map_id s]
  refine List.map_congr_left fun b hb => ?_
  have hbc : ¬ b = c := fun e => h (e ▸ hb)
  rw [if_neg hbc]
  rfl
theorem sub1_go (c d : UInt8) (p r : List UInt8) (h : c ∉ p) : sub1 c d (p ++ c :: r) = p ++ d :: sub1 c d r := by
  have := sub1_no (d := d) h
  unfold sub1 at this ⊢
  rw [List.map_append, this, List.map_cons, if_pos rfl]
theorem replace_eq {c d : UInt8} : ∀ (n : Nat) (s : List UInt8), s.length ≤ n → Lib.replaceK [c] [d] (Lib.count s [c]) s = sub1 c d s := by
  intro n
  induction n with
  | zero =>
    intro s hs
    have e : s = [] := List.length_eq_zero_iff.1 (by omega)
    subst e
    rw [count_none (by simp)]
    rfl
  | succ n ih =>
    intro s hs
    by_cases hc : c ∈ s
    · obtain ⟨p, r, rfl, hp⟩ := first_at s hc
      rw [count_one hp, Nat.add_comm, Lib.replaceK, index_yes p r hp]
      have h1 : ¬ ((p.length : Int) == -1) = true := fun e => by have := beq_iff_eq.1 e; omega
      rw [if_neg h1, sub1_go c d p r hp, Int.toNat_natCast, drop_after p r _ (by simp), ih r (by simp at hs; omega)]
      simp
    · rw [count_none hc, sub1_no hc]
      rfl
theorem replaceAll_eq {c d : UInt8} (h : c ≠ d) (s : List UInt8) : Lib.replaceAll s [c] [d] = sub1 c d s := by
  unfold Lib.replaceAll Lib.replace Lib.replaceNum
  rw [if_neg (by simp [h]), if_pos (Or.inl (by decide))]
  exact replace_eq _ s (Nat.le_refl _)
/-! ### The text of a hot spot -/
def wSpot : List UInt8 := [115, 112, 111, 116]
def wAt : List UInt8 := [97, 116]
def wWithin : List UInt8 := [119, 105, 116, 104, 105, 110]
def wHeat : List UInt8 := [104, 101, 97, 116]
def wSeen : List UInt8 := [115, 101, 101, 110]
def dg (n : Int) : List UInt8 := Lib.decDigits n.toNat
def lineH (x : Hotspot) : List UInt8 := wSpot ++ 32 :: (dg x.id ++ 32 :: (wAt ++ 32 :: (dg x.x ++ 44 :: (dg x.y ++ 32 :: (wWithin ++ 32 :: (dg x.err ++ 32 :: (wHeat ++ 32 :: (dg x.heat ++ 32 :: (wSeen ++ 32 :: dg x.tick)))))))))
theorem numB_dg (n : Int) (h : 0 ≤ n) : (numB n).data.toList = dg n := numB_data n h
theorem textH_data {x : Hotspot} (hg : goodH x = true) : (textH x).data.toList = lineH x := by
  have hb := goodH_bd hg
  unfold textH txt lineH
  simp only [ByteArray.data_append, Array.toList_append, numB_dg x.id (by omega), numB_dg x.x (by omega), numB_dg x.y (by omega), numB_dg x.err (by omega), numB_dg x.heat (by omega), numB_dg x.tick (by omega)]
  simp [wSpot, wAt, wWithin, wHeat, wSeen]
theorem dg_no (n : Int) (c : UInt8) (h : c.toNat < 48) : c ∉ dg n := fun hc => by
  have := dec_byte n.toNat c hc
  omega
theorem words32 (x : Hotspot) : splitA 32 [] (lineH x) = [wSpot, dg x.id, wAt, dg x.x ++ 44 :: dg x.y, wWithin, dg x.err, wHeat, dg x.heat, wSeen, dg x.tick] := by
  have d := fun n => dg_no n 32 (by decide)
  have e : dg x.x ++ 44 :: (dg x.y ++ 32 :: (wWithin ++ 32 :: (dg x.err ++ 32 :: (wHeat ++ 32 :: (dg x.heat ++ 32 :: (wSeen ++ 32 :: dg x.tick)))))) = (dg x.x ++ 44 :: dg x.y) ++ 32 :: (wWithin ++ 32 :: (dg x.err ++ 32 :: (wHeat ++ 32 :: (dg x.heat ++ 32 :: (wSeen ++ 32 :: dg x.tick))))) := by simp
  unfold lineH
  rw [e, splitA_go wSpot _ _ (by decide), splitA_go _ _ _ (d _), splitA_go wAt _ _ (by decide), splitA_go _ _ _ (by have h1 := d x.x; have h2 := d x.y; simp [h1, h2]), splitA_go wWithin _ _ (by decide), splitA_go _ _ _ (d _), splitA_go wHeat _ _ (by decide), splitA_go _ _ _ (d _), splitA_go wSeen _ _ (by decide), splitA_end _ _ (d _)]
  simp
theorem words44 (x : Hotspot) : splitA 44 [] (dg x.x ++ 44 :: dg x.y) = [dg x.x, dg x.y] := by
  rw [splitA_go _ _ _ (dg_no _ 44 (by decide)), splitA_end _ _ (dg_no _ 44 (by decide))]
  simp
theorem words_all (x : Hotspot) : splitA 32 [] (sub1 44 32 (lineH x)) = [wSpot, dg x.id, wAt, dg x.x, dg x.y, wWithin, dg x.err, wHeat, dg x.heat, wSeen, dg x.tick] := by
  have d := fun n => dg_no n 32 (by decide)
  have f := fun n => dg_no n 44 (by decide)
  have e : lineH x = (wSpot ++ 32 :: (dg x.id ++ 32 :: (wAt ++ 32 :: dg x.x))) ++ 44 :: (dg x.y ++ 32 :: (wWithin ++ 32 :: (dg x.err ++ 32 :: (wHeat ++ 32 :: (dg x.heat ++ 32 :: (wSeen ++ 32 :: dg x.tick)))))) := by simp [lineH]
  have n1 : (44 : UInt8) ∉ wSpot ++ 32 :: (dg x.id ++ 32 :: (wAt ++ 32 :: dg x.x)) := by
    have h1 := f x.id
    have h2 := f x.x
    simp [h1, h2, wSpot, wAt]
  have n2 : (44 : UInt8) ∉ dg x.y ++ 32 :: (wWithin ++ 32 :: (dg x.err ++ 32 :: (wHeat ++ 32 :: (dg x.heat ++ 32 :: (wSeen ++ 32 :: dg x.tick))))) := by
    have h1 := f x.y
    have h2 := f x.err
    have h3 := f x.heat
    have h4 := f x.tick
    simp [h1, h2, h3, h4, wWithin, wHeat, wSeen]
  rw [e, sub1_go _ _ _ _ n1, sub1_no n2]
  have e2 : (wSpot ++ 32 :: (dg x.id ++ 32 :: (wAt ++ 32 :: dg x.x))) ++ 32 :: (dg x.y ++ 32 :: (wWithin ++ 32 :: (dg x.err ++ 32 :: (wHeat ++ 32 :: (dg x.heat ++ 32 :: (wSeen ++ 32 :: dg x.tick)))))) = wSpot ++ 32 :: (dg x.id ++ 32 :: (wAt ++ 32 :: (dg x.x ++ 32 :: (dg x.y ++ 32 :: (wWithin ++ 32 :: (dg x.err ++ 32 :: (wHeat ++ 32 :: (dg x.heat ++ 32 :: (wSeen ++ 32 :: dg x.tick))))))))) := by simp
  rw [e2, splitA_go wSpot _ _ (by decide), splitA_go _ _ _ (d _), splitA_go wAt _ _ (by decide), splitA_go _ _ _ (d _), splitA_go _ _ _ (d _), splitA_go wWithin _ _ (by decide), splitA_go _ _ _ (d _), splitA_go wHeat _ _ (by decide), splitA_go _ _ _ (d _), splitA_go wSeen _ _ (by decide), splitA_end _ _ (d _)]
  simp
theorem dg_inj {a b : Int} (ha : 0 ≤ a) (hb : 0 ≤ b) (h : dg a = dg b) : a = b := by
  have h1 := dec_read a.toNat
  have h2 := dec_read b.toNat
  unfold dg at h
  rw [h, h2] at h1
  have := Option.some.inj h1
  omega
theorem text_inj {x y : Hotspot} (hx : goodH x = true) (hy : goodH y = true) (h : textH x = textH y) : x = y := by
  have h1 := words_all x
  rw [← textH_data hx, h, textH_data hy, words_all y] at h1
  simp only [List.cons.injEq, and_true, true_and] at h1
  obtain ⟨a, b, c, d, e, f⟩ := h1
  have hbx := goodH_bd hx
  have hby := goodH_bd hy
  have a1 := dg_inj (by omega) (by omega) a
  have b1 := dg_inj (by omega) (by omega) b
  have c1 := dg_inj (by omega) (by omega) c
  have d1 := dg_inj (by omega) (by omega) d
  have e1 := dg_inj (by omega) (by omega) e
  have f1 := dg_inj (by omega) (by omega) f
  cases x
  cases y
  simp_all
def zeroH : Hotspot := ⟨0, 0, 0, 0, 0, 0⟩
open Classical in
/-- What both return. -/
noncomputable def parseR (s : ByteArray) : Hotspot × Bool := if h : ∃ x, goodH x = true ∧ textH x = s then (h.choose, true) else (zeroH, false)
theorem parseR_yes {s : ByteArray} {x : Hotspot} (hg : goodH x = true) (h : textH x = s) : parseR s = (x, true) := by
  have he : ∃ x, goodH x = true ∧ textH x = s := ⟨x, hg, h⟩
  unfold parseR
  rw [dif_pos he]
  have hc := he.choose_spec
  rw [text_inj hc.1 hg (hc.2.trans h.symm)]
theorem parseR_no {s : ByteArray} (h : ∀ x, goodH x = true → textH x ≠ s) : parseR s = (zeroH, false) := by
  unfold parseR
  rw [dif_neg]
  rintro ⟨x, h1, h2⟩
  exact h x h1 h2
end Go.Proofs.YtkkoccllmflhfaaGreatDoor

/-
  From a walk that returns true and leaves what was there, to the statement about all arguments that can be read.
-/
import Derived.Test.YtcdgkiiokplidaaRows
import Derived.ProofKit
import Derived.OpenShut
import Derived.Lib.SmallJoins
import Derived.Deep.Slices
import Derived.Deep.Fields
import Derived.Test.YtcdgkiiokplidaaMem
namespace Go.Proofs.Ytcdgkiiokplidaa
open Go.ChangeShapes Go.WideShapes Go.ChangeAt Go.RowKit Go.Joins

theorem own : ownKnob Try.prog.godebug = none := by kernel_rfl
theorem laidOut : laidOutB Try.prog = true := by kernel_rfl

section
variable {H : Type} {enc : TypeId × Value → H} {P : Program}

theorem trodAll_stays (hl : laidOutB P = true) {W W' : World} {sp : Nat → Bool} (hb : Below W.heap.size W W') :
    ∀ {ts : List TypeId} {vs : List Value} {ds : List (DataW H)} {ps : List MemPlace}, (∀ t ∈ ts, P.readableRec t = true ∧ t < P.types.size) → (∀ x ∈ ps, x.block < W.heap.size) → (∀ x ∈ ps, sp x.block = true) →
      DataW.TrodAll enc P W 0 (fun _ => true) true ts vs ds ps → DataW.TrodAll enc P W' 0 sp true ts vs ds ps
  | [], _, _, _, _, _, _, h => by
    obtain ⟨rfl, rfl, rfl⟩ := trodAll_nil h
    exact trodAll_mk0
  | t :: ts, _, _, _, ht, hlt, hsp, h => by
    obtain ⟨v, vs1, d, ds1, a, b, rfl, rfl, rfl, h1, h2⟩ := trodAll_cons h
    exact trodAll_cons_mk (WideElems.Trod_stays hl (ht t (by simp)).1 (ht t (by simp)).2 h1 (fun x hx => hb.same (hlt x (by simp [hx]))) (fun x hx => hsp x (by simp [hx])))
      (trodAll_stays hl hb (fun t' h' => ht t' (by simp [h'])) (fun x hx => hlt x (by simp [hx])) (fun x hx => hsp x (by simp [hx])) h2)

theorem law_post {f : Func} {s : ChangeSpec} {W W' : World} {args : Array Value} {tb : TypeId} {ds gs : List (DataW H)} {before : List MemPlace}
    (hl : laidOutB P = true) (hts0 : (f.params.toList.all fun t => P.readableRec t && decide (t < P.types.size)) = true) (hres : f.resultTypes = #[tb]) (htb : P.underlying tb = some .bool) (hv : s.vars = [])
    (hfn : s.fn H ds = { results := [.lit (.bool true)], args := ds })
    (hW : DataW.Whole enc P f.params.toList s.vars false W args.toList ds gs before) (hb : Below W.heap.size W W') :
    s.post enc P f false true false false W args (.bool true) W' := by
  have hts : ∀ t ∈ f.params.toList, P.readableRec t = true ∧ t < P.types.size := fun t ht => by
    have := List.all_eq_true.1 hts0 t ht
    simpa using this
  have hW1 := hW
  obtain ⟨p, q, hA, hV, rfl, hfz, hnd⟩ := hW1
  rw [hv] at hV
  obtain ⟨rfl, rfl⟩ := trodVars_none hV
  have hlt : ∀ x ∈ p ++ [], x.block < W.heap.size := fun x hx => hW.lt x hx
  simp only [List.append_nil] at hlt
  have e : s.fn H (ds ++ []) = { results := [.lit (.bool true)], args := ds } := by rw [List.append_nil]; exact hfn
  have hres' : ∀ (b : Nat) (sp : Nat → Bool) (hd : Bool), DataW.TrodAll enc P W' b sp hd f.resultTypes.toList ((Value.bool true).resultList f.resultTypes.size) (s.fn H (ds ++ [])).results [] := fun b sp hd => by
    rw [e, hres]
    exact trodAll_mk1 (shut_bool htb _)
  have hargs : ∀ sp : Nat → Bool, (∀ x ∈ p ++ [], sp x.block = true) → DataW.TrodAll enc P W' 0 sp true f.params.toList args.toList (s.fn H (ds ++ [])).args p := fun sp hsp => by
    rw [e]
    simp only [List.append_nil] at hsp
    exact trodAll_stays hl hb hts hlt hsp hA
  have hvars : ∀ sp : Nat → Bool, (∀ x ∈ p ++ [], sp x.block = true) → DataW.TrodVars enc P W' sp s.vars (s.fn H (ds ++ [])).vars [] := fun sp _ => by
    rw [e, hv]
    exact rfl
  have hold : ∀ x ∈ p ++ [], (fun b => decide (b < W.heap.size)) x.block = true := fun x hx => by simpa using hlt x (by simpa using hx)
  refine ⟨ds, [], p ++ [], [], p, [], hW, hres' _ _ _, hargs _ hold, hvars _ hold, World.keptBut_mono (fun x hx => ⟨hx, ?_⟩) (hb.frame (· ∈ p ++ [])), fun _ => ?_⟩
  · rw [List.mem_append] at hx
    exact Or.inr hx
  · refine ⟨fun j t r h1 h2 => ?_, _, _, ([] ++ p) ++ [], ⟨[] ++ p, [], trodAll_append (hargs _ (fun _ _ => rfl)) (hres' _ _ _), hvars _ (fun _ _ => rfl), rfl, ?_, ?_⟩, ?_⟩
    · exact ok_one hres rfl (okWide_bool_mk htb true) j t r h1 h2
    · intro b off hp
      have hin : MemPlace.cell b off ∈ p ++ [] := by simpa using hp
      rw [hb.frozen (hlt _ (by simpa using hin))]
      exact hfz b off hin
    · intro ha
      cases ha
    · intro x hx _
      simpa using hx

/-- An argument that is a struct of ints, by value. -/
theorem int_field {t : TypeId} {n : Nat} {w : World} {base : Nat} {spare : Nat → Bool} {held : Bool} {v : Value} {y : DataW H × List MemPlace} (ht : P.underlying t = some (.int .i64)) (h : DataW.trod enc P w base spare held n t [v] = some y) :
    ∃ k : Int, v = .int .i64 k ∧ (Lit.int .i64 k).wf = true := by
  obtain ⟨a, e0, _, wa⟩ := DataW.trod_int ht h
  simp at e0
  exact ⟨a, e0, wa⟩
theorem ints_list : ∀ cs : List Value, (∀ (j : Nat) (v : Value), cs[j]? = some v → ∃ k : Int, v = .int .i64 k ∧ (Lit.int .i64 k).wf = true) → ∃ ks : List Int, cs = ks.map (Value.int .i64) ∧ ∀ k ∈ ks, (Lit.int .i64 k).wf = true
  | [], _ => ⟨[], rfl, by simp⟩
  | c :: cs, h => by
    obtain ⟨k, rfl, hk⟩ := h 0 c rfl
    obtain ⟨ks, rfl, hks⟩ := ints_list cs (fun j v hv => h (j + 1) v hv)
    refine ⟨k :: ks, rfl, fun x hx => ?_⟩
    rcases List.mem_cons.1 hx with rfl | hx
    · exact hk
    · exact hks x hx
/-- Each field is an int of one cell, in order. -/
def intFields (P : Program) (fs : Array Field) : Bool :=
  (List.range fs.size).all fun j => match fs[j]? with
    | some f => f.offset == j && P.cellsOf f.type == 1 && (match P.underlying f.type with | some (.int .i64) => true | _ => false)
    | none => false
theorem intFields_of {fs : Array Field} (h : intFields P fs = true) (j : Nat) (f : Field) (hj : fs[j]? = some f) : f.offset = j ∧ P.cellsOf f.type = 1 ∧ P.underlying f.type = some (.int .i64) := by
  have hl : j < fs.size := (Array.getElem?_eq_some_iff.1 hj).1
  have h1 := List.all_eq_true.1 h j (List.mem_range.2 hl)
  simp only [hj, Bool.and_eq_true, beq_iff_eq] at h1
  refine ⟨h1.1.1, h1.1.2, ?_⟩
  have h2 := h1.2
  split at h2
  · rename_i e; exact e
  · cases h2
theorem struct_ints_cells {w : World} {base : Nat} {spare : Nat → Bool} {held : Bool} {t : TypeId} {fs : Array Field} {fuel : Nat} {cs : List Value} {x : DataW H × List MemPlace} (hs : P.underlying t = some (.struct fs)) (hi : intFields P fs = true) (hC : P.cellsOf t = fs.size)
    (h : DataW.trod enc P w base spare held fuel t cs = some x) : ∃ ks : List Int, ks.length = fs.size ∧ cs = ks.map (Value.int .i64) ∧ ∀ k ∈ ks, (Lit.int .i64 k).wf = true := by
  obtain ⟨xs, n, _, _, hl, hlen, hf⟩ := DataW.trod_struct hs h
  obtain ⟨ks, hk, hw⟩ := ints_list cs (fun j v hv => by
    have hjl : j < fs.size := by have := (List.getElem?_eq_some_iff.1 hv).1; omega
    have hj : fs[j]? = some fs[j] := Array.getElem?_eq_getElem hjl
    obtain ⟨ho, h1, hu⟩ := intFields_of hi j _ hj
    have h2 := hf j _ hj
    rw [ho, h1] at h2
    have e : (cs.drop j).take 1 = [v] := by
      have hjc : j < cs.length := by omega
      rw [List.drop_eq_getElem_cons hjc]
      rw [List.getElem?_eq_getElem hjc] at hv
      simp only [Option.some.injEq] at hv
      simp [hv]
    rw [e] at h2
    have hx : xs[j]? = some (xs[j]'(by omega)) := List.getElem?_eq_getElem (by omega)
    exact int_field hu (h2.trans hx))
  refine ⟨ks, ?_, hk, hw⟩
  have : cs.length = ks.length := by rw [hk]; simp
  omega
theorem open_struct_ints {w : World} {base : Nat} {spare : Nat → Bool} {held : Bool} {r : Reach} {b0 : Nat} {t : TypeId} {fs : Array Field} {v : Value} {d : DataW H} {p : List MemPlace} (hs : P.underlying t = some (.struct fs)) (hi : intFields P fs = true) (hC : P.cellsOf t = fs.size)
    (hv : Value.okWide P w r b0 t v) (h : DataW.Trod enc P w base spare held t v d p) :
    ∃ ks : List Int, ks.length = fs.size ∧ v = .agg (ks.map (Value.int .i64)).toArray ∧ ∀ k ∈ ks, (Lit.int .i64 k).wf = true := by
  obtain ⟨cs, rfl, hsz⟩ := okWide_struct hs hv
  obtain ⟨fuel, hf⟩ := h
  obtain ⟨ks, h1, h2, h3⟩ := struct_ints_cells hs hi hC hf
  exact ⟨ks, h1, by rw [← h2]; simp [Value.cells], h3⟩
theorem len2 {ks : List Int} (h : ks.length = 2) : ∃ a b, ks = [a, b] := by
  match ks, h with
  | [a, b], _ => exact ⟨a, b, rfl⟩
theorem len3 {ks : List Int} (h : ks.length = 3) : ∃ a b c, ks = [a, b, c] := by
  match ks, h with
  | [a, b, c], _ => exact ⟨a, b, c, rfl⟩
theorem len4 {ks : List Int} (h : ks.length = 4) : ∃ a b c d, ks = [a, b, c, d] := by
  match ks, h with
  | [a, b, c, d], _ => exact ⟨a, b, c, d, rfl⟩
theorem len5 {ks : List Int} (h : ks.length = 5) : ∃ a b c d e, ks = [a, b, c, d, e] := by
  match ks, h with
  | [a, b, c, d, e], _ => exact ⟨a, b, c, d, e, rfl⟩
theorem len6 {ks : List Int} (h : ks.length = 6) : ∃ a b c d e f, ks = [a, b, c, d, e, f] := by
  match ks, h with
  | [a, b, c, d, e, f], _ => exact ⟨a, b, c, d, e, f, rfl⟩

theorem rows_upto {W : World} {a : Addr} {k q : Nat} (h : ∀ i, i < q → ∃ ks : List Int, ks.length = k ∧ ∀ j v, (ints ks)[j]? = some v → W.cell? (a.add (i * k + j)) = some v) :
    ∃ L : List (List Int), L.length = q ∧ (∀ l ∈ L, l.length = k) ∧ ∀ j v, (L.flatMap ints)[j]? = some v → W.cell? (a.add j) = some v := by
  induction q with
  | zero => exact ⟨[], rfl, by simp, by simp⟩
  | succ q ih =>
    obtain ⟨L, hl, hk, hc⟩ := ih (fun i hi => h i (by omega))
    obtain ⟨ks, hks, hcs⟩ := h q (by omega)
    refine ⟨L ++ [ks], by simp [hl], fun l hm => ?_, fun j v hj => ?_⟩
    · rcases List.mem_append.1 hm with h1 | h1
      · exact hk l h1
      · rw [List.mem_singleton.1 h1]; exact hks
    · have hlen : (L.flatMap ints).length = q * k := by
        clear hc hj hcs h ih
        subst hl
        induction L with
        | nil => simp
        | cons x L ih2 =>
          have h1 := hk x (by simp)
          rw [List.flatMap_cons, List.length_append, ints_len, h1, ih2 (fun l hm => hk l (by simp [hm])), List.length_cons, Nat.add_mul]
          omega
      rw [List.flatMap_append, List.getElem?_append] at hj
      split at hj
      · exact hc j v hj
      · rename_i hge
        simp only [List.flatMap_cons, List.flatMap_nil, List.append_nil] at hj
        have := hcs (j - (L.flatMap ints).length) v hj
        rw [hlen] at this hge
        rwa [show q * k + (j - q * k) = j from by omega] at this

theorem slice_structs {W : World} {r : Reach} {b0 : Nat} {t e : TypeId} {fs : Array Field} {v : Value} {d : DataW H} {p : List MemPlace} (ht : P.underlying t = some (.slice e)) (he : P.underlying e = some (.struct fs)) (hi : intFields P fs = true) (hC : P.cellsOf e = fs.size) (hpos : 0 < fs.size)
    (hv : Value.okWide P W r b0 t v) (h : DataW.Trod enc P W 0 (fun _ => true) true t v d p) :
    ∃ (A : Option Addr) (n c : Nat) (L : List (List Int)), v = .slice A n c ∧ (∀ l ∈ L, l.length = fs.size) ∧ Sl W fs.size A n c (L.flatMap ints) := by
  obtain ⟨a0, len, cap, rfl⟩ := okWide_slice ht hv
  obtain ⟨fuel, hf⟩ := h
  rcases Go.Deep.open_slice ht hf with ⟨hcs, _⟩ | ⟨a, len', cap', m, n', D, Pl, hcs, _, hl, hm, hmm, _, hi'⟩
  · simp only [Value.cells, List.cons.injEq, Value.slice.injEq, and_true] at hcs
    obtain ⟨rfl, rfl, rfl⟩ := hcs
    exact ⟨none, 0, 0, [], rfl, by simp, by simp, Nat.le_refl _, Nat.zero_le _, fun h => absurd h (by omega)⟩
  · simp only [Value.cells, List.cons.injEq, Value.slice.injEq, and_true] at hcs
    obtain ⟨rfl, rfl, rfl⟩ := hcs
    simp only [if_true] at hmm
    subst hmm
    have rows : ∀ i, i < len → ∃ ks : List Int, ks.length = fs.size ∧ ∀ j v, (ints ks)[j]? = some v → W.cell? (a.add (i * fs.size + j)) = some v := fun i him => by
      obtain ⟨cs', hc, ht'⟩ := hi' i (by omega)
      rw [hC] at hc
      obtain ⟨_, hcl, hat⟩ := World.cells?_some hc
      obtain ⟨ks, hk1, hk2, _⟩ := struct_ints_cells he hi hC ht'
      refine ⟨ks, hk1, fun j v hj => ?_⟩
      have hjl : j < fs.size := by
        have := (List.getElem?_eq_some_iff.1 hj).1
        rw [ints_len] at this
        omega
      have := hat j hjl
      rw [← Go.Deep.add_add, this, hk2]
      exact hj
    obtain ⟨L, hL, hk, hc⟩ := rows_upto rows
    refine ⟨some a, len, _, L, rfl, hk, ?_, hl, hm, fun hn => ?_⟩
    · have := flat_len_of L fs.size hk
      rw [this, hL]
    · obtain ⟨b, off, spot⟩ := a
      have hlen := flat_len_of L fs.size hk
      have h0 : 0 < (L.flatMap ints).length := by rw [hlen, hL]; exact Nat.mul_pos hn hpos
      have hcell0 := hc 0 _ (List.getElem?_eq_getElem h0)
      have hspot : spot = none := by simpa [Addr.add] using World.cell?_spot hcell0
      subst hspot
      refine ⟨b, off, rfl, ?_, fun j v hj => ?_⟩
      · have := block_lt_of_cell hcell0
        simpa [Addr.add] using this
      · rw [← Go.WideShapes.add_plain]
        exact hc j v hj
end
end Go.Proofs.Ytcdgkiiokplidaa

/- Ranging over a map keyed by int: the keys that are still to come, in whatever order. -/
import Derived.Test.YtiolpfneppchnaaVsMap
import Derived.Maps.Range
namespace Go.Vs
open Go Go.RowKit Go.MapKept

/-- block r ranges over the map at b, which holds f; the keys in 'left' are still to come. -/
def IIter (w : World) (r b : Nat) (f : Int → Option Value) (left : List Int) : Prop :=
  ∃ es clock since seen c0, w.heap[r]? = some (.mapIter (some b) since seen c0) ∧ w.heap[b]? = some (.map es clock) ∧ Stamped es clock ∧ Shape es f ∧
    (∀ x ∈ es.toList, x.born < since) ∧ since ≤ c0 ∧ since ≤ clock ∧ left.Nodup ∧ (∀ k, k ∈ left ↔ ∃ x ∈ es.toList, x.key = .int .i64 k ∧ seen.contains x.born = false)

theorem IIter.kept {w w' : World} {r b : Nat} {f : Int → Option Value} {left : List Int} (h : IIter w r b f left) (hr : w'.heap[r]? = w.heap[r]?) (hb : w'.heap[b]? = w.heap[b]?) : IIter w' r b f left := by
  obtain ⟨es, clock, since, seen, c0, h1, h2, h3⟩ := h
  exact ⟨es, clock, since, seen, c0, hr.trans h1, hb.trans h2, h3⟩

theorem IIter.map {w : World} {r b : Nat} {f : Int → Option Value} {left : List Int} (h : IIter w r b f left) : IMap w b f := by
  obtain ⟨es, clock, since, seen, c0, h1, h2, h3, h4, _⟩ := h
  exact ⟨es, clock, h2, h3, h4⟩

theorem IIter.lt {w : World} {r b : Nat} {f : Int → Option Value} {left : List Int} (h : IIter w r b f left) : r < w.heap.size := by
  obtain ⟨es, clock, since, seen, c0, h1, _⟩ := h
  exact lt_of_at h1

/-- a list of a map's keys. -/
def KeysOf (f : Int → Option Value) (ks : List Int) : Prop := ks.Nodup ∧ ∀ k, k ∈ ks ↔ (f k).isSome = true

theorem Shape.keys {es : Array MapEntry} {clock : Nat} {f : Int → Option Value} (hs : Stamped es clock) (h : Shape es f) :
    ∃ ks : List Int, es.toList.map (·.key) = ks.map (Value.int .i64) ∧ KeysOf f ks := by
  have h1 : ∀ l : List MapEntry, (∀ x ∈ l, ∃ k, x.key = .int .i64 k) → ∃ ks : List Int, l.map (·.key) = ks.map (Value.int .i64) := by
    intro l
    induction l with
    | nil => intro _; exact ⟨[], rfl⟩
    | cons x l ih =>
      intro hx
      obtain ⟨k, hk⟩ := hx x (by simp)
      obtain ⟨ks, hks⟩ := ih (fun y hy => hx y (by simp [hy]))
      exact ⟨k :: ks, by simp [hk, hks]⟩
  obtain ⟨ks, hks⟩ := h1 es.toList (fun x hx => by obtain ⟨k, hk, _⟩ := h.1 x hx; exact ⟨k, hk⟩)
  refine ⟨ks, hks, ?_, ?_⟩
  · have := hs.2.2
    rw [hks] at this
    exact (List.pairwise_map.1 (List.nodup_iff_pairwise_ne.1 this)).imp (fun h e => h (by rw [e]))
  · intro k
    constructor
    · intro hk
      have : Value.int .i64 k ∈ es.toList.map (·.key) := by rw [hks]; exact List.mem_map_of_mem hk
      obtain ⟨x, hx, hxk⟩ := List.mem_map.1 this
      obtain ⟨k', hk', hf⟩ := h.1 x hx
      rw [hxk] at hk'
      simp only [Value.int.injEq, true_and] at hk'
      rw [hk', hf]; rfl
    · intro hk
      obtain ⟨v, hv⟩ := Option.isSome_iff_exists.1 hk
      obtain ⟨x, hx, hxk⟩ := h.2 k v hv
      have : Value.int .i64 k ∈ ks.map (Value.int .i64) := by rw [← hks, ← hxk]; exact List.mem_map_of_mem hx
      obtain ⟨k', hk', e⟩ := List.mem_map.1 this
      simp only [Value.int.injEq, true_and] at e
      rw [← e]; exact hk'

section
variable {P : Program} {ops : Array Oper} {rest : List Oper} {o : Oper} {a : Act} {Q : Exit → Act → World → Prop} {w : World}

theorem wpList_range_map (hg : o.guard = none) (m : Operand) (t : TypeId) (hop : o.op = Op.range t m) (kt e : TypeId) (ht : P.underlying t = some (.map kt e)) (b : Nat) (f : Int → Option Value)
    (hm : a.eval m = .map (some b)) (h : IMap w b f)
    (hK : ∀ w' left, IIter w' w.heap.size b f left → KeysOf f left → Below w.heap.size w w' → w'.heap.size = w.heap.size + 1 → wpList P ops Q rest (a.put o.dst (.pointer (some ⟨w.heap.size, 0, none⟩))) w') :
    wpList P ops Q (o :: rest) a w := by
  obtain ⟨es, clock, hb, hs, hsh⟩ := h
  have hlt := lt_of_at hb
  obtain ⟨ks, hks, hkeys⟩ := hsh.keys hs
  have hgo := MapKept.run_getObj_map (P := P) hb
  have hrun : (Instr.range t (.map (some b))).run P w = .ok (.pointer (some ⟨w.heap.size, 0, none⟩)) (w.alloc (.mapIter (some b) clock #[] clock)) := by
    simp [Instr.range, run_underlying ht, hgo, newObj, Result.andThen]
    rfl
  refine wpList_value hg (v := .pointer (some ⟨w.heap.size, 0, none⟩)) (w' := w.alloc (.mapIter (some b) clock #[] clock)) (by simp [execOp, hop, hm, hrun, Result.andThen]) (hK _ ks ?_ hkeys ((Below.refl _ _).alloc (Nat.le_refl _) _) alloc_size)
  refine ⟨es, clock, clock, #[], clock, alloc_new, (alloc_old hlt).trans hb, hs, hsh, hs.1, Nat.le_refl _, Nat.le_refl _, hkeys.1, ?_⟩
  intro k
  have : k ∈ ks ↔ Value.int .i64 k ∈ es.toList.map (·.key) := by
    rw [hks]
    constructor
    · exact fun hk => List.mem_map_of_mem hk
    · intro hk
      obtain ⟨k', hk', e'⟩ := List.mem_map.1 hk
      simp only [Value.int.injEq, true_and] at e'
      rw [← e']; exact hk'
  rw [this, List.mem_map]
  constructor
  · rintro ⟨x, hx, hxk⟩; exact ⟨x, hx, hxk, by simp⟩
  · rintro ⟨x, hx, hxk, _⟩; exact ⟨x, hx, hxk⟩

theorem key_inj {es : Array MapEntry} {clock : Nat} (hs : Stamped es clock) {x y : MapEntry} (hx : x ∈ es.toList) (hy : y ∈ es.toList) (h : x.key = y.key) : x = y := by
  have := hs.2.2
  rw [List.nodup_iff_pairwise_ne, List.pairwise_map] at this
  exact entry_eq_of_key this hx hy h

theorem born_inj {es : Array MapEntry} {clock : Nat} (hs : Stamped es clock) {x y : MapEntry} (hx : x ∈ es.toList) (hy : y ∈ es.toList) (h : x.born = y.born) : x = y := by
  have hnd := hs.2.1
  obtain ⟨i, hi, rfl⟩ := List.mem_iff_getElem.1 hx
  obtain ⟨j, hj, rfl⟩ := List.mem_iff_getElem.1 hy
  rw [List.nodup_iff_pairwise_ne, List.pairwise_map, List.pairwise_iff_getElem] at hnd
  rcases Nat.lt_trichotomy i j with hlt | rfl | hlt
  · exact absurd h (hnd i j hi hj hlt)
  · rfl
  · exact absurd h.symm (hnd j i hj hi hlt)

theorem wpList_next_map (hg : o.guard = none) (it : Operand) (hop : o.op = Op.next it false) (b r : Nat) (f : Int → Option Value) (left : List Int)
    (hit : a.eval it = .pointer (some ⟨r, 0, none⟩)) (h : IIter w r b f left)
    (hDone : left = [] → wpList P ops Q rest (a.put o.dst (.tuple #[.bool false])) w)
    (hMore : ∀ k v w', k ∈ left → f k = some v → IIter w' r b f (left.erase k) → (∀ j, j ≠ r → w'.heap[j]? = w.heap[j]?) → w'.heap.size = w.heap.size → w'.os = w.os → w'.tape = w.tape → w'.output = w.output →
      (Instr.entry (.pointer (some ⟨r, 0, none⟩))).run P w' = .ok (.tuple #[.int .i64 k, v]) w' → wpList P ops Q rest (a.put o.dst (.tuple #[.bool true, .int .i64 k, v])) w') :
    wpList P ops Q (o :: rest) a w := by
  obtain ⟨es, clock, since, seen, c0, hr, hb, hs, hsh, hold, hsc, hcl, hnd, hmem⟩ := h
  have hleft : ∀ x, x ∈ (leftOf es seen).toList ↔ x ∈ es.toList ∧ seen.contains x.born = false := by
    intro x
    unfold leftOf
    simp
  rcases run_next_at (P := P) w o.type r b since c0 seen es clock hr hb hold hsc with ⟨h0, hrun⟩ | ⟨e, he, w1, hw1, hrun⟩
  · have hl : left = [] := by
      cases left with
      | nil => rfl
      | cons k l =>
        obtain ⟨x, hx, _, hxs⟩ := (hmem k).1 (by simp)
        have : x ∈ (leftOf es seen).toList := (hleft x).2 ⟨hx, hxs⟩
        rw [Array.eq_empty_of_size_eq_zero h0] at this
        simp at this
    exact wpList_value hg (by simp [execOp, hop, hit, hrun, Result.andThen]) (hDone hl)
  · obtain ⟨hex, hes⟩ := (hleft e).1 he
    obtain ⟨k, hk, hf⟩ := hsh.1 e hex
    have hkl : k ∈ left := (hmem k).2 ⟨e, hex, hk, hes⟩
    have hrb : r ≠ b := fun e' => by rw [e', hb] at hr; cases hr
    rw [hk] at hrun
    have hh : w1.heap = w.heap := by rcases hw1 with rfl | rfl <;> rfl
    have hlt := lt_of_at hr
    have hr' : (ChangeMaps.setBlock w1 r (.mapIter (some b) since (seen.push e.born) clock)).heap[r]? = some (.mapIter (some b) since (seen.push e.born) clock) := by
      simp [ChangeMaps.setBlock, hh, hlt]
    have ho' : ∀ j, j ≠ r → (ChangeMaps.setBlock w1 r (.mapIter (some b) since (seen.push e.born) clock)).heap[j]? = w.heap[j]? := by
      intro j hj
      simp [ChangeMaps.setBlock, hh, Ne.symm hj]
    have hb' := (ho' b (Ne.symm hrb)).trans hb
    have hen := run_entry_at (P := P) _ r b since seen es clock e hr' hb' hex hs.2.1
    rw [hk] at hen
    refine wpList_value hg (by simp only [execOp, hop, hit, Sem.run_bind, hrun, Result.andThen, Sem.run_pure]) (hMore k e.val _ hkl hf ?_ ho' (by simp [ChangeMaps.setBlock, hh]) ?_ ?_ ?_ hen)
    · refine ⟨es, clock, since, seen.push e.born, clock, hr', hb', hs, hsh, hold, hcl, hcl, hnd.erase _, ?_⟩
      · intro j
        rw [hnd.mem_erase_iff, hmem]
        constructor
        · rintro ⟨hj, x, hx, hxk, hxs⟩
          refine ⟨x, hx, hxk, ?_⟩
          rw [Array.contains_push, hxs]
          simp only [Bool.false_or, beq_eq_false_iff_ne, ne_eq]
          intro e'
          have := born_inj hs hx hex e'
          subst this
          rw [hk] at hxk
          simp only [Value.int.injEq, true_and] at hxk
          exact hj hxk.symm
        · rintro ⟨x, hx, hxk, hxs⟩
          rw [Array.contains_push, Bool.or_eq_false_iff] at hxs
          refine ⟨?_, x, hx, hxk, hxs.1⟩
          rintro rfl
          have := key_inj hs hx hex (by rw [hxk, hk])
          subst this
          simp at hxs
    · rcases hw1 with rfl | rfl <;> rfl
    · rcases hw1 with rfl | rfl <;> rfl
    · rcases hw1 with rfl | rfl <;> rfl
end
end Go.Vs

/- Maps keyed by int, whose elements are whatever takes one cell: look up, store, delete, range; said as a function from keys to elements. -/
import Derived.Test.YtiolpfneppchnaaVsOps3
import Derived.MapKept
import Derived.Maps.RangeRun
namespace Go.Vs
open Go Go.RowKit Go.MapKept

def mupd {α : Type} (f : Int → Option α) (k : Int) (x : Option α) : Int → Option α := fun j => if j = k then x else f j
theorem mupd_same {α : Type} (f : Int → Option α) (k : Int) (x : Option α) : mupd f k x k = x := by simp [mupd]
theorem mupd_other {α : Type} (f : Int → Option α) {k j : Int} (x : Option α) (h : j ≠ k) : mupd f k x j = f j := by simp [mupd, h]

def Shape (es : Array MapEntry) (f : Int → Option Value) : Prop :=
  (∀ x ∈ es.toList, ∃ k, x.key = .int .i64 k ∧ f k = some x.val) ∧ (∀ k v, f k = some v → ∃ x ∈ es.toList, x.key = .int .i64 k)

def IMap (w : World) (b : Nat) (f : Int → Option Value) : Prop :=
  ∃ es clock, w.heap[b]? = some (.map es clock) ∧ Stamped es clock ∧ Shape es f

theorem IMap.lt {w : World} {b : Nat} {f : Int → Option Value} (h : IMap w b f) : b < w.heap.size := by
  obtain ⟨es, clock, hb, _⟩ := h; exact lt_of_at hb

theorem IMap.kept {w w' : World} {b : Nat} {f : Int → Option Value} (h : IMap w b f) (hk : w'.heap[b]? = w.heap[b]?) : IMap w' b f := by
  obtain ⟨es, clock, hb, r⟩ := h; exact ⟨es, clock, hk.trans hb, r⟩

theorem IMap.new (w : World) : IMap (w.alloc (.map #[] 0)) w.heap.size (fun _ => none) :=
  ⟨#[], 0, alloc_new, stamped_empty 0, by simp, by simp⟩

theorem Shape.isKey {es : Array MapEntry} {f : Int → Option Value} (h : Shape es f) : ∀ x ∈ es.toList, IsKey (.int .i64) x.key := by
  intro x hx
  obtain ⟨k, hk, _⟩ := h.1 x hx
  rw [hk]; rfl

theorem Shape.find {es : Array MapEntry} {f : Int → Option Value} (h : Shape es f) (k : Int) :
    (Instr.findNow (.int .i64) (.int .i64 k) es.toList 0 = some none ∧ f k = none) ∨
    ∃ j e, Instr.findNow (.int .i64) (.int .i64 k) es.toList 0 = some (some (j, e.val)) ∧ es.toList[j]? = some e ∧ e.key = .int .i64 k ∧ f k = some e.val := by
  rcases findNow_spec (d := .int .i64) (k := .int .i64 k) rfl es.toList 0 h.isKey with ⟨h1, h2⟩ | ⟨j, e, h1, h2, h3⟩
  · refine .inl ⟨h1, ?_⟩
    cases hf : f k with
    | none => rfl
    | some v =>
      obtain ⟨x, hx, hk⟩ := h.2 k v hf
      exact absurd hk (h2 x hx)
  · refine .inr ⟨j, e, by simpa using h1, h2, h3, ?_⟩
    obtain ⟨k', hk', hf⟩ := h.1 e (List.mem_of_getElem? h2)
    rw [h3] at hk'
    simp only [Value.int.injEq, true_and] at hk'
    rw [hk']; exact hf

section
variable {P : Program} {ops : Array Oper} {rest : List Oper} {o : Oper} {a : Act} {Q : Exit → Act → World → Prop} {w : World}

theorem run_lookup (t kt e : TypeId) (ht : P.underlying t = some (.map kt e)) (hk : P.underlying kt = some (.int .i64)) {i : TypeInfo} (hi : P.info? e = some i) {z : Value} (hz : i.zero = some z)
    {b : Nat} {f : Int → Option Value} (h : IMap w b f) (k : Int) (c : Bool) :
    (Instr.lookup t (.map (some b)) (.int .i64 k) c).run P w = .ok (if c then .tuple #[(f k).getD z, .bool (f k).isSome] else (f k).getD z) w := by
  obtain ⟨es, clock, hb, hs, hsh⟩ := h
  have hg := Go.MapKept.run_getObj_map (P := P) hb
  have hc := run_checkKey (P := P) (w := w) hk (k := .int .i64 k) rfl es.isEmpty 9999
  rcases hsh.find k with ⟨h1, h2⟩ | ⟨j, x, h1, h2, h3, h4⟩
  · have hf := run_findKey (P := P) (w := w) hk h1
    cases c <;> simp [Instr.lookup, run_underlying ht, hg, hc, hf, zeroValue, typeInfo, hi, hz, h2, Result.andThen]
  · have hf := run_findKey (P := P) (w := w) hk h1
    cases c <;> simp [Instr.lookup, run_underlying ht, hg, hc, hf, h4, Result.andThen]

theorem same_bits_int (k : Int) : Instr.sameBits 10000 (.int .i64 k) (.int .i64 k) = true := by simp [Instr.sameBits]

theorem modify_self_key {es : Array MapEntry} {j : Nat} {e : MapEntry} {v : Value} (h2 : es.toList[j]? = some e) :
    es.modify j (fun x => { x with key := e.key, val := v }) = es.modify j (fun x => { x with val := v }) := by
  apply Array.ext_getElem?
  intro i
  simp only [Array.getElem?_modify]
  split
  · rename_i hij
    subst hij
    rw [← Array.getElem?_toList, h2]
    rfl
  · rfl

theorem run_update (t kt e : TypeId) (ht : P.underlying t = some (.map kt e)) (hk : P.underlying kt = some (.int .i64))
    {b : Nat} {f : Int → Option Value} (h : IMap w b f) (k : Int) (v : Value) :
    ∃ o, (Instr.mapUpdate t (.map (some b)) (.int .i64 k) v).run P w = .ok () (putObj w b o) ∧ IMap (putObj w b o) b (mupd f k (some v)) := by
  obtain ⟨es, clock, hb, hs, hsh⟩ := h
  have hg := Go.MapKept.run_getObj_map (P := P) hb
  have hc := run_checkKey (P := P) (w := w) hk (k := .int .i64 k) rfl false 9999
  rcases hsh.find k with ⟨h1, h2⟩ | ⟨j, x, h1, h2, h3, h4⟩
  · have hf := run_findKey (P := P) (w := w) hk h1
    have hne : ∀ x ∈ es.toList, x.key ≠ .int .i64 k := by
      intro x hx e'
      obtain ⟨k', hk', hf'⟩ := hsh.1 x hx
      rw [e'] at hk'
      simp only [Value.int.injEq, true_and] at hk'
      rw [← hk', h2] at hf'; cases hf'
    refine ⟨.map (es.push { key := .int .i64 k, val := v, born := clock }) (clock + 1), ?_, _, _, put_same hb, stamped_push hs hne, ?_, ?_⟩
    · simp [Instr.mapUpdate, run_underlying ht, hg, hc, hf, Go.MapKept.run_setObj_map _ hb, Result.andThen, putObj]
    · intro x hx
      simp only [Array.toList_push, List.mem_append, List.mem_singleton] at hx
      rcases hx with hx | rfl
      · obtain ⟨k', hk', hf'⟩ := hsh.1 x hx
        refine ⟨k', hk', ?_⟩
        rw [mupd_other _ _ (fun e' => hne x hx (by rw [hk', e']))]; exact hf'
      · exact ⟨k, rfl, mupd_same _ _ _⟩
    · intro k' v' hv'
      by_cases e' : k' = k
      · subst e'; exact ⟨{ key := .int .i64 k', val := v, born := clock }, by simp, rfl⟩
      · rw [mupd_other _ _ e'] at hv'
        obtain ⟨x, hx, hxk⟩ := hsh.2 k' v' hv'
        exact ⟨x, by simp [hx], hxk⟩
  · have hf := run_findKey (P := P) (w := w) hk h1
    have hj : es[j]? = some x := by rw [← Array.getElem?_toList]; exact h2
    have hjlt : j < es.size := (Array.getElem?_eq_some_iff.1 hj).1
    refine ⟨.map (es.modify j fun y => { y with val := v }) clock, ?_, _, _, put_same hb, stamped_modify hs j _ (fun _ _ => rfl) (fun _ _ _ => rfl), ?_, ?_⟩
    · have hm := modify_self_key (v := v) h2
      rw [h3] at hm
      simp [Instr.mapUpdate, run_underlying ht, hg, hc, hf, hj, h3, Instr.keyThatStays, same_bits_int, Go.MapKept.run_setObj_map _ hb, Result.andThen, putObj, hm]
    · intro y hy
      obtain ⟨i, hi, rfl⟩ := List.mem_iff_getElem.1 hy
      simp only [Array.getElem_toList, Array.getElem_modify]
      have hi' : i < es.size := by simpa using hi
      split
      · rename_i hij
        subst hij
        have : es[j] = x := (Array.getElem?_eq_some_iff.1 hj).2
        refine ⟨k, by rw [this]; exact h3, mupd_same _ _ _⟩
      · rename_i hij
        obtain ⟨k', hk', hf'⟩ := hsh.1 es[i] (by simp)
        refine ⟨k', hk', ?_⟩
        rw [mupd_other]
        · exact hf'
        · intro e'
          subst e'
          have hnd := hs.2.2
          have := (List.nodup_iff_pairwise_ne.1 hnd)
          rw [List.pairwise_iff_getElem] at this
          have hx : es[j] = x := (Array.getElem?_eq_some_iff.1 hj).2
          rcases Nat.lt_or_gt_of_ne hij with hlt | hlt
          · exact this j i (by simpa using hjlt) (by simpa using hi') hlt (by simp [hx, h3, hk'])
          · exact this i j (by simpa using hi') (by simpa using hjlt) hlt (by simp [hx, h3, hk'])
    · intro k' v' hv'
      have hmem : ∀ y ∈ es.toList, ∃ z ∈ (es.modify j fun y => { y with val := v }).toList, z.key = y.key := by
        intro y hy
        obtain ⟨i, hi, rfl⟩ := List.mem_iff_getElem.1 hy
        have hi' : i < es.size := by simpa using hi
        refine ⟨(es.modify j fun y => { y with val := v })[i]'(by simpa using hi'), Array.mem_toList_iff.2 (Array.getElem_mem _), ?_⟩
        simp only [Array.getElem_modify, Array.getElem_toList]
        split <;> rfl
      by_cases e' : k' = k
      · subst e'
        obtain ⟨z, hz, hzk⟩ := hmem x (List.mem_of_getElem? h2)
        exact ⟨z, hz, by rw [hzk]; exact h3⟩
      · rw [mupd_other _ _ e'] at hv'
        obtain ⟨y, hy, hyk⟩ := hsh.2 k' v' hv'
        obtain ⟨z, hz, hzk⟩ := hmem y hy
        exact ⟨z, hz, by rw [hzk]; exact hyk⟩

theorem run_delete (t kt e ty : TypeId) (ts : TypeId) (ht : P.underlying t = some (.map kt e)) (hk : P.underlying kt = some (.int .i64))
    {b : Nat} {f : Int → Option Value} (h : IMap w b f) (k : Int) :
    ∃ o, (Builtin.delete_ #[t, ts] ty #[.map (some b), .int .i64 k]).run P w = .ok (.tuple #[]) (putObj w b o) ∧ IMap (putObj w b o) b (mupd f k none) := by
  obtain ⟨es, clock, hb, hs, hsh⟩ := h
  have hg := Go.MapKept.run_getObj_map (P := P) hb
  have hc := run_checkKey (P := P) (w := w) hk (k := .int .i64 k) rfl es.isEmpty 9999
  rcases hsh.find k with ⟨h1, h2⟩ | ⟨j, x, h1, h2, h3, h4⟩
  · have hf := run_findKey (P := P) (w := w) hk h1
    refine ⟨.map es clock, ?_, _, _, put_same hb, hs, ?_⟩
    · simp [Builtin.delete_, run_underlying ht, hg, hc, hf, Go.MapKept.run_setObj_map _ hb, Result.andThen, putObj]
    · have : mupd f k none = f := by
        funext j
        by_cases e' : j = k
        · subst e'; rw [mupd_same, h2]
        · rw [mupd_other _ _ e']
      rw [this]; exact hsh
  · have hf := run_findKey (P := P) (w := w) hk h1
    have hj : es[j]? = some x := by rw [← Array.getElem?_toList]; exact h2
    have hjlt : j < es.size := (Array.getElem?_eq_some_iff.1 hj).1
    have hx : es[j] = x := (Array.getElem?_eq_some_iff.1 hj).2
    have hlist : (es.eraseIdxIfInBounds j).toList = es.toList.eraseIdx j := by
      rw [Array.eraseIdxIfInBounds, dif_pos hjlt, Array.toList_eraseIdx]
    have hsub : (es.toList.eraseIdx j).Sublist es.toList := List.eraseIdx_sublist _ _
    have hmem : ∀ y, y ∈ es.toList.eraseIdx j ↔ y ∈ es.toList ∧ y.key ≠ .int .i64 k := by
      intro y
      have hnd := List.nodup_iff_pairwise_ne.1 hs.2.2
      rw [List.pairwise_iff_getElem] at hnd
      rw [List.mem_eraseIdx_iff_getElem]
      constructor
      · rintro ⟨i, hi, hne, rfl⟩
        refine ⟨by simp, fun e' => ?_⟩
        have hi' : i < es.size := by simpa using hi
        rcases Nat.lt_or_gt_of_ne hne with hlt | hlt
        · exact hnd i j (by simpa using hi') (by simpa using hjlt) hlt (by simp [hx, h3]; simpa using e')
        · exact hnd j i (by simpa using hjlt) (by simpa using hi') hlt (by simp [hx, h3]; exact (by simpa using e'.symm))
      · rintro ⟨hy, hne⟩
        obtain ⟨i, hi, rfl⟩ := List.mem_iff_getElem.1 hy
        refine ⟨i, hi, fun e' => hne ?_, rfl⟩
        subst e'
        simp [hx, h3]
    refine ⟨.map (es.eraseIdxIfInBounds j) clock, ?_, _, _, put_same hb, ?_, ?_, ?_⟩
    · simp [Builtin.delete_, run_underlying ht, hg, hc, hf, Go.MapKept.run_setObj_map _ hb, Result.andThen, putObj]
    · refine ⟨?_, ?_, ?_⟩
      · intro y hy; rw [hlist] at hy; exact hs.1 y (hsub.subset hy)
      · rw [hlist]; exact (hsub.map _).nodup hs.2.1
      · rw [hlist]; exact (hsub.map _).nodup hs.2.2
    · intro y hy
      rw [hlist, hmem] at hy
      obtain ⟨k', hk', hf'⟩ := hsh.1 y hy.1
      refine ⟨k', hk', ?_⟩
      rw [mupd_other _ _ (fun e' => hy.2 (by rw [hk', e']))]; exact hf'
    · intro k' v' hv'
      by_cases e' : k' = k
      · subst e'; rw [mupd_same] at hv'; cases hv'
      · rw [mupd_other _ _ e'] at hv'
        obtain ⟨y, hy, hyk⟩ := hsh.2 k' v' hv'
        refine ⟨y, ?_, hyk⟩
        rw [hlist, hmem]
        exact ⟨hy, by rw [hyk]; simpa using e'⟩
end
end Go.Vs

/- The library's sort at slices of int, said of rows of the program's own. -/
import Derived.Test.YtiolpfneppchnaaVsSp9
import Derived.Test.YtiolpfneppchnaaVsShelf
import Derived.Shelf.Slices.In.SortNone
namespace Go.Proofs.Ytiolpfneppchnaa
open Go Go.RowKit Go.Vs Go.Sort

def sorted (zs : List Int) : List Int := zs.mergeSort fun x y => decide (x ≤ y)

theorem sorted_perm (zs : List Int) : (sorted zs).Perm zs := List.mergeSort_perm _ _
theorem sorted_length (zs : List Int) : (sorted zs).length = zs.length := (sorted_perm zs).length_eq
theorem sorted_le (zs : List Int) : (sorted zs).Pairwise (· ≤ ·) := by
  have := List.pairwise_mergeSort (le := fun x y : Int => decide (x ≤ y)) (by intro a b c h1 h2; simp at h1 h2 ⊢; omega) (by intro a b; simp; omega) zs
  exact this.imp (fun h => by simpa using h)
theorem sorted_lt {zs : List Int} (h : zs.Nodup) : (sorted zs).Pairwise (· < ·) := by
  have h1 := sorted_le zs
  have h2 : (sorted zs).Nodup := (sorted_perm zs).nodup_iff.2 h
  exact (h1.and h2).imp (fun ⟨a, b⟩ => by have : _ ≠ _ := b; omega)

/-- two lists that rise and hold the same are one. -/
theorem rise_eq : ∀ {a b : List Int}, a.Pairwise (· < ·) → b.Pairwise (· < ·) → (∀ x, x ∈ a ↔ x ∈ b) → a = b
  | [], [], _, _, _ => rfl
  | [], y :: b, _, _, h => by have := (h y).2 (by simp); cases this
  | x :: a, [], _, _, h => by have := (h x).1 (by simp); cases this
  | x :: a, y :: b, ha, hb, h => by
    have ha' := List.pairwise_cons.1 ha
    have hb' := List.pairwise_cons.1 hb
    have e : x = y := by
      have h1 := (h x).1 (by simp)
      have h2 := (h y).2 (by simp)
      rcases List.mem_cons.1 h1 with e | h1
      · exact e
      · rcases List.mem_cons.1 h2 with e | h2
        · exact e.symm
        · have := hb'.1 _ h1; have := ha'.1 _ h2; omega
    subst e
    congr 1
    refine rise_eq ha'.2 hb'.2 (fun z => ?_)
    have hz := h z
    constructor
    · intro hm
      have := ha'.1 _ hm
      rcases List.mem_cons.1 (hz.1 (by simp [hm])) with e | h1
      · omega
      · exact h1
    · intro hm
      have := hb'.1 _ hm
      rcases List.mem_cons.1 (hz.2 (by simp [hm])) with e | h1
      · omega
      · exact h1

theorem take_putInts (cur : Array Value) (ts : List Int) (h : ts.length ≤ cur.size) : (putCells (Value.int .i64) 0 ts.toArray cur).toList.take ts.length = ts.map (Value.int .i64) := by
  apply List.ext_getElem?
  intro j
  by_cases hj : j < ts.length
  · rw [List.getElem?_take_of_lt hj, Array.getElem?_toList]
    simp [putCells, hj, show j < cur.size by omega]
  · rw [List.getElem?_take_eq_none (by omega), List.getElem?_eq_none (by simp; omega)]

theorem sort_ints (v : Value) (zs : List Int) (base : Nat) (w : World) (hown : w.ownsRow base 3 1 v zs.length (zs.map (Value.int .i64))) (hsz : zs.length < 4611686018427387904) :
    Calls Try.prog 50 #[v] w fun e w' => e = .returned (.tuple #[]) ∧ w'.ownsRow base 3 1 v zs.length ((sorted zs).map (Value.int .i64)) ∧ w.grownBy w' v.ownBlock := by
  rcases hown.2 with ⟨hnil, h0⟩ | ⟨g, cap, cur, rfl, hbase, hb, h1, h2, h3, h4⟩
  · have hz : zs = [] := List.eq_nil_of_length_eq_zero h0
    subst hnil; subst hz
    have hc : Calls Try.prog 50 #[.slice none 0 0] w fun e w' => e = .returned (.tuple #[]) ∧ w' = w := calls_of_every_depth fun D => AnyS.slices_Sort_int_none_in Try.lays189 D none 0 w
    refine hc.mono ?_
    rintro e w' ⟨rfl, rfl⟩
    refine ⟨rfl, ?_, ⟨rfl, rfl, rfl, Nat.le_refl _, fun _ _ _ => rfl⟩⟩
    have e0 : sorted [] = [] := by simp [sorted]
    rw [e0]; exact hown
  · have hg : g < w.heap.size := (Array.getElem?_eq_some_iff.1 hb).1
    have hH : Holds (Value.int .i64) w g 0 zs.toArray := by
      intro j hj
      have hj' : j < zs.length := by simpa using hj
      refine ⟨?_, by simp [World.frozen?, hb]⟩
      have h1 : (cur.toList.take (zs.length * 1))[j]? = (zs.map (Value.int .i64))[j]? := by rw [h4]
      rw [List.getElem?_take_of_lt (by omega)] at h1
      simp only [World.cell?, hb, Nat.zero_add]
      simp only [Option.isSome_none, Bool.false_eq_true, if_false]
      rw [← Array.getElem?_toList, h1]
      simp [hj']
    refine (Try.slices_Sort_int g 0 cap zs w hH hg hsz).mono ?_
    rintro e w' ⟨rfl, n, os, rfl⟩
    have hl : (sorted zs).length = zs.length := sorted_length zs
    have hp : (grow (putRow (Value.int .i64) (Sort.ahead w n) g 0 (sorted zs).toArray) os).heap[g]? = some (.cells (putCells (Value.int .i64) 0 (sorted zs).toArray cur) 3 (0, 0)) := by
      rw [heap_grow_old _ _ (by simpa using hg)]
      simp [putRow, mapBlock, Sort.ahead, Array.getElem?_modify, hb, onCells]
    refine ⟨rfl, ⟨by simp [hl], .inr ⟨g, cap, _, rfl, hbase, hp, h1, h2, by simp [putCells, h3], ?_⟩⟩, ⟨rfl, rfl, rfl, by simp, fun k hk hne => ?_⟩⟩
    · rw [Nat.mul_one, ← hl]; exact take_putInts cur _ (by omega)
    · show (grow (putRow (Value.int .i64) (Sort.ahead w n) g 0 (sorted zs).toArray) os).heap[k]? = w.heap[k]?
      rw [heap_grow_old _ _ (by simpa using hk)]
      have : g ≠ k := fun e => hne (by rw [e]; rfl)
      simp [putRow, mapBlock, Sort.ahead, Array.getElem?_modify, this]
end Go.Proofs.Ytiolpfneppchnaa

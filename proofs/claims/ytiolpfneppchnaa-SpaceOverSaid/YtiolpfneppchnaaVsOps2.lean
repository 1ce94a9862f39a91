/- Laws of copy, of conversions between bytes and strings, of make, over byte blocks that may bear a string's mark behind their end. -/
import Derived.Test.YtiolpfneppchnaaVsOps
namespace Go.Vs
open Go Go.RowKit

section
variable {P : Program}

/-- no cell of a row is frozen. -/
def Thaw (cur : Array Value) (fr : Nat × Nat) : Prop := fr = (0, 0) ∨ cur.size ≤ fr.1

theorem Thaw.no {cur : Array Value} {fr : Nat × Nat} (h : Thaw cur fr) (j : Nat) (hj : j < cur.size) : (decide (fr.1 ≤ j) && decide (j < fr.2)) = false := by
  rcases h with rfl | h
  · simp
  · simp; omega

theorem Thaw.set {cur cur' : Array Value} {fr : Nat × Nat} (h : Thaw cur fr) (hs : cur'.size = cur.size) : Thaw cur' fr := by
  rcases h with h | h
  · exact .inl h
  · exact .inr (by omega)

theorem run_storeCells_thaw (g o : Nat) (t : TypeId) (fr : Nat × Nat) : ∀ (vs : List Value) (i : Nat) (cur : Array Value) (w : World), w.heap[g]? = some (.cells cur t fr) → Thaw cur fr → o + i + vs.length ≤ cur.size → (∀ v ∈ vs, v.oneCell' = true) →
    (storeCells ⟨g, o, none⟩ vs i).run P w = .ok () (w.setRow g (cur.toList.take (o + i) ++ vs ++ cur.toList.drop (o + i + vs.length)).toArray)
  | [], i, cur, w, hg, _, _, _ => by
    simp only [storeCells, List.append_nil, List.length_nil, Nat.add_zero, List.take_append_drop, Array.toArray_toList]
    rw [setRow_self w g cur t fr hg]
    rfl
  | v :: rest, i, cur, w, hg, hth, hl, h1 => by
    have hi : o + i < cur.size := by simp at hl; omega
    have hadd : (⟨g, o, none⟩ : Addr).add i = ⟨g, o + i, none⟩ := by unfold Addr.add; split <;> simp_all
    have hcell : w.cell? ⟨g, o + i, none⟩ = some cur[o + i] := by simp [World.cell?, hg, hi]
    have hfro : w.frozen? ⟨g, o + i, none⟩ = false := by
      have := hth.no (o + i) hi
      obtain ⟨lo, hi'⟩ := fr
      simpa [World.frozen?, hg] using this
    have hst : (store ((⟨g, o, none⟩ : Addr).add i) v).run P w = .ok () (w.setRow g (cur.setIfInBounds (o + i) v)) := by
      rw [hadd, run_store P w _ v _ (h1 v (by simp)), hcell]
      simp [hfro, setCell_eq_setRow w g (o + i) cur t fr v hg]
    have ih := run_storeCells_thaw g o t fr rest (i + 1) (cur.setIfInBounds (o + i) v) (w.setRow g (cur.setIfInBounds (o + i) v)) (setRow_heap w g cur _ t _ hg) (hth.set (by simp)) (by simp at hl ⊢; omega) (fun x hx => h1 x (by simp [hx]))
    simp only [storeCells, Sem.run_bind, hst, Result.andThen_ok, ih, setRow_setRow]
    congr 3
    have e := list_seg_step cur.toList (o + i) v rest (by simp at hl ⊢; omega)
    simpa [Array.toList_setIfInBounds, Nat.add_assoc] using e

/-- bytes laid over others. -/
def lay {α : Type} (L : List α) (off : Nat) (cs : List α) : List α := L.take off ++ cs ++ L.drop (off + cs.length)
theorem lay_length {α : Type} (L : List α) (off : Nat) (cs : List α) (h : off + cs.length ≤ L.length) : (lay L off cs).length = L.length := by
  simp [lay]; omega
theorem lay_nil {α : Type} (L : List α) (off : Nat) : lay L off [] = L := by simp [lay]
theorem lay_cells (L : Bs) (off : Nat) (cs : Bs) : lay (cells L) off (cells cs) = cells (lay L off cs) := by
  simp [lay, cells, List.map_take, List.map_drop]
theorem lay_take {α : Type} (L : List α) (n off : Nat) (cs : List α) (h : off + cs.length ≤ n) (hn : n ≤ L.length) : (lay L off cs).take n = lay (L.take n) off cs := by
  apply List.ext_getElem?
  intro j
  simp only [lay, List.getElem?_take, List.getElem?_append, List.length_append, List.length_take, List.getElem?_drop]
  have e1 : min off L.length = off := by omega
  have e2 : min off (min n L.length) = off := by omega
  simp only [e1, e2]
  by_cases h1 : j < n
  · by_cases h2 : j < off + cs.length
    · by_cases h3 : j < off
      · simp [h1, h2, h3]
      · simp [h1, h2, h3]
    · have h4 : off + cs.length + (j - (off + cs.length)) < n := by omega
      simp [h1, h2, h4]
  · have h2 : ¬ j < off + cs.length := by omega
    have h4 : ¬ off + cs.length + (j - (off + cs.length)) < n := by omega
    simp [h1, h2, h4]

/-- WHAT A SECOND ARGUMENT OF copy YIELDS. -/
theorem run_copy_src (w : World) (dT sT ty elem : TypeId) (g o dLen dCap : Nat) (x : Value) (m : Nat) (cur : Array Value) (t : TypeId) (fr : Nat × Nat) (cs : List Value)
    (hu : P.underlying dT = some (.slice elem)) (hs : (P.info? elem).map (·.size) = some 1)
    (hg : w.heap[g]? = some (.cells cur t fr)) (hth : Thaw cur fr) (hlen : (Builtin.lenOf x).run P w = .ok m w) (hn : cs.length = Nat.min m dLen)
    (hsrc : (Builtin.firstCells 1 cs.length x).run P w = .ok cs.toArray w) (hfit : o + cs.length ≤ cur.size) (h1 : ∀ v ∈ cs, v.oneCell' = true) :
    (Builtin.copy_ #[dT, sT] ty #[.slice (some ⟨g, o, none⟩) dLen dCap, x]).run P w =
      .ok (goInt cs.length) (w.setRow g (lay cur.toList o cs).toArray) := by
  have hst := run_storeCells_thaw (P := P) g o t fr cs 0 cur w hg hth (by simpa using hfit) h1
  cases hq : P.info? elem with
  | none => simp [hq] at hs
  | some i =>
    have hi : i.size = 1 := by simpa [hq] using hs
    simp [Builtin.copy_, run_underlying hu, hlen, sizeOf, typeInfo, hq, hi, ← hn, hsrc, hst, lay]

theorem firstCells_take (s : ByteArray) (m : Nat) (w : World) : (Builtin.firstCells 1 m (.string s)).run P w = .ok (cells (s.data.toList.take m)).toArray w := by
  simp [Builtin.firstCells, cells]
  apply Array.ext'
  simp [List.map_take]

/-- copy(b[o:], s) of a string that fits. -/
theorem run_copy_str (w : World) (dT sT ty elem : TypeId) (g o dLen dCap : Nat) (s : ByteArray) (cur : Array Value) (t : TypeId) (fr : Nat × Nat)
    (hu : P.underlying dT = some (.slice elem)) (hs : (P.info? elem).map (·.size) = some 1)
    (hg : w.heap[g]? = some (.cells cur t fr)) (hth : Thaw cur fr) (hn : s.size ≤ dLen) (hfit : o + s.size ≤ cur.size) :
    (Builtin.copy_ #[dT, sT] ty #[.slice (some ⟨g, o, none⟩) dLen dCap, .string s]).run P w =
      .ok (.int .i64 s.size) (w.setRow g (lay cur.toList o (cells s.data.toList)).toArray) := by
  have hl : (cells s.data.toList).length = s.size := by rw [cells_length]; rfl
  have hf : (Builtin.firstCells 1 (cells s.data.toList).length (.string s)).run P w = .ok (cells s.data.toList).toArray w := by
    rw [firstCells_take, hl, List.take_of_length_le (show s.data.toList.length ≤ s.size from Nat.le_refl _)]
  have := run_copy_src (P := P) w dT sT ty elem g o dLen dCap (.string s) s.size cur t fr (cells s.data.toList) hu hs hg hth rfl
    (by rw [hl]; exact (Nat.min_eq_left hn).symm) hf (by rw [hl]; exact hfit) (cells_one _)
  rw [this, hl]; rfl

theorem run_copy_str_nil (w : World) (dT sT ty elem : TypeId) (a : Option Addr) (dLen dCap : Nat)
    (hu : P.underlying dT = some (.slice elem)) (hs : (P.info? elem).map (·.size) = some 1) :
    (Builtin.copy_ #[dT, sT] ty #[.slice a dLen dCap, .string ⟨#[]⟩]).run P w = .ok (.int .i64 0) w := by
  cases hq : P.info? elem with
  | none => simp [hq] at hs
  | some i =>
    have hi : i.size = 1 := by simpa [hq] using hs
    cases a with
    | none => simp [Builtin.copy_, run_underlying hu, Builtin.lenOf, sizeOf, typeInfo, hq, hi, firstCells_take, cells, ByteArray.size, goInt]
    | some a => simp [Builtin.copy_, run_underlying hu, Builtin.lenOf, sizeOf, typeInfo, hq, hi, firstCells_take, cells, ByteArray.size, goInt, storeCells]

/-! ### string(b) -/
/-- a slice value whose bytes are these: whatever lies around them. -/
def Reads (w : World) (v : Value) (bs : Bs) : Prop :=
  (∃ c, v = .slice none 0 c ∧ bs = []) ∨ ∃ a c, v = .slice (some a) bs.length c ∧ a.spot = none ∧ ∀ j x, bs[j]? = some x → w.cell? ⟨a.block, a.off + j, none⟩ = some (.int .u8 x.toNat)

theorem add_none {a : Addr} (h : a.spot = none) (j : Nat) : a.add j = ⟨a.block, a.off + j, none⟩ := by
  obtain ⟨b, o, s⟩ := a
  simp only at h; subst h
  exact Addr.add_lit b o j

theorem Reads.load {w : World} {a : Addr} {bs : Bs} {c : Nat} (h : Reads w (.slice (some a) bs.length c) bs) :
    (loadCells a bs.length).run P w = .ok ((bs.map fun x => ((x.toNat : Nat) : Int)).map (Value.int .u8)).toArray w := by
  have hcs : ∀ j v, (cells bs)[j]? = some v → w.cell? (a.add j) = some v := by
    intro j v hv
    rw [cells_get] at hv
    rcases h with ⟨c', h, _⟩ | ⟨a', c', h, hs, hc⟩
    · simp at h
    · simp only [Value.slice.injEq, Option.some.injEq, true_and] at h
      obtain ⟨rfl, rfl⟩ := h
      cases hb : bs[j]? with
      | none => rw [hb] at hv; simp at hv
      | some x =>
        rw [hb] at hv; simp at hv; subst hv
        rw [add_none hs]; exact hc j x hb
  have := run_loadCells_list (P := P) w a (cells bs) hcs
  rw [cells_length] at this
  rw [this]
  simp [cells, Function.comp_def]

theorem foldl_bytes (bs : Bs) : (bs.map fun x => ((x.toNat : Nat) : Int)).foldl (fun r n => r.push (UInt8.ofNat n.toNat)) ByteArray.empty = ⟨bs.toArray⟩ := by
  rw [foldl_push_byteCells, show ByteArray.empty.data = #[] from rfl]
  simp

theorem run_string_of (w : World) (src dst e : TypeId) (v : Value) (bs : Bs) (hs : P.underlying src = some (.slice e)) (he : P.underlying e = some (.int .u8)) (hd : P.underlying dst = some .string)
    (h : Reads w v bs) : (convert src dst v).run P w = .ok (str bs) w := by
  have h' := h
  rcases h with ⟨c, rfl, rfl⟩ | ⟨a, c, rfl, hsp, hc⟩
  · rw [run_convert_bytes_string w src dst e _ _ _ hs he hd]
    simp [Conv.bytesToString, str]
    rfl
  · rw [run_convert_bytes_string w src dst e _ _ _ hs he hd, run_bytesToString w a _ c (bs.map fun x => ((x.toNat : Nat) : Int)) (Reads.load h'), foldl_bytes]
    rfl

/-! ### []byte(s) -/
/-- a block of bytes at whose head they stand; it may bear a mark behind its end. -/
def BlkB (w : World) (E : TypeId) (g : Nat) (cap : Nat) (bs : Bs) : Prop :=
  ∃ cur fr, w.heap[g]? = some (.cells cur E fr) ∧ Thaw cur fr ∧ cur.size = cap ∧ bs.length ≤ cap ∧ cap ≤ maxLen ∧ cur.toList.take bs.length = cells bs

theorem BlkB.cell {w : World} {E : TypeId} {g cap : Nat} {bs : Bs} (h : BlkB w E g cap bs) {j : Nat} {x : UInt8} (hj : bs[j]? = some x) : w.cell? ⟨g, j, none⟩ = some (.int .u8 x.toNat) := by
  obtain ⟨cur, fr, hg, _, hsz, hle, _, ht⟩ := h
  have hlt : j < bs.length := (List.getElem?_eq_some_iff.1 hj).1
  have : (cells bs)[j]? = some (.int .u8 x.toNat) := by rw [cells_get, hj]; rfl
  rw [← ht, List.getElem?_take, if_pos hlt] at this
  simpa [World.cell?, hg] using this

theorem BlkB.reads {w : World} {E : TypeId} {g cap : Nat} {bs : Bs} (h : BlkB w E g cap bs) (c : Nat) : Reads w (.slice (some ⟨g, 0, none⟩) bs.length c) bs :=
  .inr ⟨⟨g, 0, none⟩, c, rfl, rfl, fun j x hj => by simpa using h.cell hj⟩

/-- a part of it. -/
theorem BlkB.readsPart {w : World} {E : TypeId} {g cap : Nat} {bs : Bs} (h : BlkB w E g cap bs) (lo n c : Nat) (hn : lo + n ≤ bs.length) :
    Reads w (.slice (some ⟨g, lo, none⟩) n c) ((bs.drop lo).take n) :=
  .inr ⟨⟨g, lo, none⟩, c, by simp; omega, rfl, fun j x hj => by
    rw [List.getElem?_take] at hj
    split at hj
    · rw [List.getElem?_drop] at hj
      exact h.cell hj
    · cases hj⟩

theorem BlkB.lt {w : World} {E : TypeId} {g cap : Nat} {bs : Bs} (h : BlkB w E g cap bs) : g < w.heap.size := by
  obtain ⟨cur, fr, hg, _⟩ := h
  exact lt_of_at hg

theorem BlkB.kept {w w' : World} {E : TypeId} {g cap : Nat} {bs : Bs} (h : BlkB w E g cap bs) (he : w'.heap[g]? = w.heap[g]?) : BlkB w' E g cap bs := by
  obtain ⟨cur, fr, hg, r⟩ := h
  exact ⟨cur, fr, he.trans hg, r⟩

/-- bytes laid over a part. -/
theorem BlkB.lay {w : World} {E : TypeId} {g cap : Nat} {bs : Bs} (h : BlkB w E g cap bs) (o : Nat) (s : ByteArray) (hfit : o + s.size ≤ bs.length)
    (dT sT ty : TypeId) (n c : Nat) (hn : s.size ≤ n) (hu : P.underlying dT = some (.slice E)) (hs : (P.info? E).map (·.size) = some 1) :
    ∃ w', (Builtin.copy_ #[dT, sT] ty #[.slice (some ⟨g, o, none⟩) n c, .string s]).run P w = .ok (.int .i64 s.size) w' ∧ BlkB w' E g cap (lay bs o s.data.toList) ∧ w.grownBy w' (some g) ∧ w'.heap.size = w.heap.size := by
  obtain ⟨cur, fr, hg, hth, hsz, hle, hm, ht⟩ := h
  have hl : (cells s.data.toList).length = s.size := by rw [cells_length]; rfl
  have hls : s.data.toList.length = s.size := rfl
  refine ⟨_, run_copy_str w dT sT ty E g o n c s cur E fr hu hs hg hth hn (by omega), ⟨_, fr, setRow_heap w g cur _ E fr hg, ?_, ?_, ?_, hm, ?_⟩, ⟨rfl, rfl, rfl, by simp, fun k _ hk => setRow_other w g k _ (fun e => hk (by rw [e]))⟩, by simp⟩
  · exact hth.set (by simp [lay_length _ _ _ (show o + (cells s.data.toList).length ≤ cur.toList.length by simp [hl]; omega)])
  · simp [lay_length _ _ _ (show o + (cells s.data.toList).length ≤ cur.toList.length by simp [hl]; omega), hsz]
  · rw [lay_length _ _ _ (by rw [hls]; omega)]; exact hle
  · rw [lay_length _ _ _ (by rw [hls]; omega)]
    rw [lay_take _ _ _ _ (by rw [hl]; exact hfit) (by simp; omega), ht, lay_cells]

theorem run_bytes_of (w : World) (src dst e : TypeId) (s : ByteArray) (hs : P.underlying src = some .string) (hd : P.underlying dst = some (.slice e)) (he : P.underlying e = some (.int .u8)) (hsz : s.size ≤ maxLen) :
    ∃ cap w', (convert src dst (.string s)).run P w = .ok (.slice (some ⟨w.heap.size, 0, none⟩) s.size cap) w' ∧ BlkB w' e w.heap.size cap s.data.toList ∧ w.grownBy w' none ∧ w'.heap.size = w.heap.size + 1 := by
  have hcm := grownCap_le_maxLen w s.size 0 e hsz
  have hge := grownCap_ge w s.size 0 e
  refine ⟨grownCap w s.size 0 e, _, run_bytes_of_string w src dst e s hs hd he, ⟨_, _, heap_alloc_new w.drew _, .inr ?_, ?_, ?_, hcm, ?_⟩, ⟨rfl, rfl, rfl, by simp, fun k hk _ => Below.heap_alloc w.drew _ k hk⟩, by simp⟩
  · simp
  · show (s.data.map (fun b : UInt8 => Value.int .u8 b.toNat) ++ Array.replicate (grownCap w s.size 0 e - s.size) (Value.int .u8 0)).size = _
    have hd' : s.data.size = s.size := rfl
    simp only [Array.size_append, Array.size_map, Array.size_replicate, hd']
    omega
  · exact hge
  · have : s.data.toList.length = (cells s.data.toList).length := (cells_length _).symm
    rw [this]
    simp only [bytesRow, Array.toList_append, Array.toList_map]
    exact List.take_left
end
end Go.Vs

/- Blocks of memory, tags of blocks, what a step leaves alone: plain laws over the model, for whatever program. -/
import Derived.WalkKit
import Derived.WalkSpells
import Derived.WalkLawsBesides
import Derived.Laws.CopyOwn
import Derived.Maps.AppendAt
namespace Go.Vs
open Go Go.RowKit

/-! ### Blocks -/
theorem lt_of_at {w : World} {b : Nat} {o : Obj} (h : w.heap[b]? = some o) : b < w.heap.size :=
  (Array.getElem?_eq_some_iff.1 h).1

theorem cell_at {w : World} {b o : Nat} {c : Array Value} {E : TypeId} {fz : Nat × Nat}
    (h : w.heap[b]? = some (.cells c E fz)) : w.cell? ⟨b, o, none⟩ = c[o]? := by
  simp [World.cell?, h]

theorem froz_at {w : World} {b o : Nat} {c : Array Value} {E : TypeId}
    (h : w.heap[b]? = some (.cells c E (0, 0))) : w.frozen? ⟨b, o, none⟩ = false := by
  simp [World.frozen?, h]

theorem set_same {w : World} {b o : Nat} {c : Array Value} {E : TypeId} {v : Value}
    (h : w.heap[b]? = some (.cells c E (0, 0))) : (w.setCell ⟨b, o, none⟩ v).heap[b]? = some (.cells (c.setIfInBounds o v) E (0, 0)) :=
  heap_setCell_same w b o c E v h

theorem set_other {w : World} {b k o : Nat} {v : Value} (h : b ≠ k) :
    (w.setCell ⟨b, o, none⟩ v).heap[k]? = w.heap[k]? :=
  heap_setCell_other w ⟨b, o, none⟩ k v (fun e => h e.symm)

theorem set_size {w : World} {a : Addr} {v : Value} : (w.setCell a v).heap.size = w.heap.size := by simp [World.setCell]

theorem alloc_old {w : World} {o : Obj} {k : Nat} (h : k < w.heap.size) : (w.alloc o).heap[k]? = w.heap[k]? :=
  Below.heap_alloc w o k h

theorem alloc_new {w : World} {o : Obj} : (w.alloc o).heap[w.heap.size]? = some o := by
  show (w.heap.push o)[w.heap.size]? = _
  simp

theorem alloc_size {w : World} {o : Obj} : (w.alloc o).heap.size = w.heap.size + 1 := by
  show (w.heap.push o).size = _
  simp

theorem row_same {w : World} {g : Nat} {c c' : Array Value} {E : TypeId} (h : w.heap[g]? = some (.cells c E (0, 0))) :
    (w.setRow g c').heap[g]? = some (.cells c' E (0, 0)) := setRow_heap w g c c' E _ h

theorem row_other {w : World} {g k : Nat} {c' : Array Value} (h : g ≠ k) : (w.setRow g c').heap[k]? = w.heap[k]? :=
  setRow_other w g k c' (fun e => h e.symm)

/-- a block of whatever kind laid over an old one (a map, an iterator). -/
def putObj (w : World) (b : Nat) (o : Obj) : World := { w with heap := w.heap.setIfInBounds b o }

theorem put_same {w : World} {b : Nat} {o o' : Obj} (h : w.heap[b]? = some o') : (putObj w b o).heap[b]? = some o := by
  have := lt_of_at h
  simp [putObj, this]

theorem put_other {w : World} {b k : Nat} {o : Obj} (h : b ≠ k) : (putObj w b o).heap[k]? = w.heap[k]? := by
  simp [putObj, h]

theorem put_size {w : World} {b : Nat} {o : Obj} : (putObj w b o).heap.size = w.heap.size := by simp [putObj]

/-! ### Tags: what a block is to the program -/
inductive Tag where
  | none | disk | file (i : Nat) | raws | log | pool | plist | pmap | frame (i : Nat) | fbytes (i : Nat)
  | space | free | act | apages | agone | abytes (p : Nat) | heap | tree | misc (i : Nat)
  deriving DecidableEq

abbrev Tags := Nat → Tag

theorem ne_of_tag {T : Tags} {a b : Nat} {s t : Tag} (ha : T a = s) (hb : T b = t) (h : s ≠ t) : a ≠ b :=
  fun e => h (by rw [← ha, ← hb, e])

/-- the tags of new blocks laid. -/
def Tags.put (T : Tags) (b : Nat) (t : Tag) : Tags := fun k => if k = b then t else T k
theorem Tags.put_same (T : Tags) (b : Nat) (t : Tag) : T.put b t b = t := by simp [Tags.put]
theorem Tags.put_other (T : Tags) {b k : Nat} (t : Tag) (h : k ≠ b) : T.put b t k = T k := by simp [Tags.put, h]

/-- beyond the heap's end nothing is tagged. -/
def Fresh (w : World) (T : Tags) : Prop := ∀ k, w.heap.size ≤ k → T k = .none

/-- What a step turns: blocks whose tags are of a class, and new ones. -/
structure Step (C : Tag → Bool) (w : World) (T : Tags) (w' : World) (T' : Tags) : Prop where
  os : w'.os = w.os
  tape : w'.tape = w.tape
  output : w'.output = w.output
  size : w.heap.size ≤ w'.heap.size
  old : ∀ k, k < w.heap.size → T' k = T k
  same : ∀ k, k < w.heap.size → C (T k) = false → w'.heap[k]? = w.heap[k]?
  new : ∀ k, w.heap.size ≤ k → C (T' k) = true ∨ T' k = .none
  fresh : Fresh w' T'

theorem Step.refl {C : Tag → Bool} {w : World} {T : Tags} (h : Fresh w T) : Step C w T w T :=
  ⟨rfl, rfl, rfl, Nat.le_refl _, fun _ _ => rfl, fun _ _ _ => rfl, fun k hk => .inr (h k hk), h⟩

theorem Step.trans {C : Tag → Bool} {a b c : World} {Ta Tb Tc : Tags} (h : Step C a Ta b Tb) (k : Step C b Tb c Tc) : Step C a Ta c Tc where
  os := k.os.trans h.os
  tape := k.tape.trans h.tape
  output := k.output.trans h.output
  size := Nat.le_trans h.size k.size
  old := fun i hi => (k.old i (Nat.lt_of_lt_of_le hi h.size)).trans (h.old i hi)
  same := fun i hi hc => (k.same i (Nat.lt_of_lt_of_le hi h.size) (by rw [h.old i hi]; exact hc)).trans (h.same i hi hc)
  new := fun i hi => by
    by_cases hb : i < b.heap.size
    · rw [k.old i hb]; exact h.new i hi
    · exact k.new i (by omega)
  fresh := k.fresh

theorem Step.mono {C D : Tag → Bool} {a b : World} {Ta Tb : Tags} (h : Step C a Ta b Tb) (hcd : ∀ t, C t = true → D t = true) : Step D a Ta b Tb where
  os := h.os
  tape := h.tape
  output := h.output
  size := h.size
  old := h.old
  same := fun i hi hd => h.same i hi (by
    cases hc : C (Ta i) with
    | false => rfl
    | true => rw [hcd _ hc] at hd; cases hd)
  new := fun i hi => (h.new i hi).imp (hcd _) id
  fresh := h.fresh

/-- a block that is none of the class's reads as it did. -/
theorem Step.at {C : Tag → Bool} {a b : World} {Ta Tb : Tags} (h : Step C a Ta b Tb) {k : Nat} {o : Obj} (hk : a.heap[k]? = some o) (hc : C (Ta k) = false) :
    b.heap[k]? = some o := (h.same k (lt_of_at hk) hc).trans hk

theorem Step.tag {C : Tag → Bool} {a b : World} {Ta Tb : Tags} (h : Step C a Ta b Tb) {k : Nat} {o : Obj} {t : Tag} (hk : a.heap[k]? = some o) (ht : Ta k = t) :
    Tb k = t := (h.old k (lt_of_at hk)).trans ht

theorem Fresh.drew {w : World} {T : Tags} (h : Fresh w T) : Fresh w.drew T := h

/-- one cell of a block of the class is written. -/
theorem Step.setCell {C : Tag → Bool} {a w : World} {Ta T : Tags} (h : Step C a Ta w T) {b o : Nat} {v : Value} (hb : C (T b) = true) :
    Step C a Ta (w.setCell ⟨b, o, none⟩ v) T :=
  h.trans ⟨rfl, rfl, rfl, by simp [World.setCell], fun _ _ => rfl, fun k _ hc => set_other (fun e => by rw [e, hc] at hb; cases hb),
    fun k hk => .inr (h.fresh k hk), fun k hk => h.fresh k (by simpa [World.setCell] using hk)⟩

theorem Step.setRow {C : Tag → Bool} {a w : World} {Ta T : Tags} (h : Step C a Ta w T) {b : Nat} {c : Array Value} (hb : C (T b) = true) :
    Step C a Ta (w.setRow b c) T :=
  h.trans ⟨rfl, rfl, rfl, by simp, fun _ _ => rfl, fun k _ hc => row_other (fun e => by rw [e, hc] at hb; cases hb),
    fun k hk => .inr (h.fresh k hk), fun k hk => h.fresh k (by simpa using hk)⟩

theorem Step.putObj {C : Tag → Bool} {a w : World} {Ta T : Tags} (h : Step C a Ta w T) {b : Nat} {o : Obj} (hb : C (T b) = true) :
    Step C a Ta (putObj w b o) T :=
  h.trans ⟨rfl, rfl, rfl, by simp [put_size], fun _ _ => rfl, fun k _ hc => put_other (fun e => by rw [e, hc] at hb; cases hb),
    fun k hk => .inr (h.fresh k hk), fun k hk => h.fresh k (by simpa [put_size] using hk)⟩

theorem Step.alloc {C : Tag → Bool} {a w : World} {Ta T : Tags} (h : Step C a Ta w T) (o : Obj) : Step C a Ta (w.alloc o) T :=
  h.trans ⟨rfl, rfl, rfl, by simp, fun _ _ => rfl, fun k hk _ => alloc_old hk,
    fun k hk => .inr (h.fresh k hk), fun k hk => h.fresh k (by simp at hk; omega)⟩

/-- the new block is tagged. -/
theorem Step.allocTag {C : Tag → Bool} {a w : World} {Ta T : Tags} (h : Step C a Ta w T) (o : Obj) {t : Tag} (ht : C t = true) :
    Step C a Ta (w.alloc o) (T.put w.heap.size t) :=
  h.trans ⟨rfl, rfl, rfl, by simp, fun k hk => Tags.put_other T t (by omega), fun k hk _ => alloc_old hk,
    fun k hk => by
      by_cases e : k = w.heap.size
      · subst e; left; rw [Tags.put_same]; exact ht
      · right; rw [Tags.put_other T t e]; exact h.fresh k hk,
    fun k hk => by
      rw [Tags.put_other T t (by simp at hk; omega)]
      exact h.fresh k (by simp at hk; omega)⟩

/-- a block that was new to this step, untagged as yet, is tagged. -/
theorem Step.retag {C : Tag → Bool} {a w : World} {Ta T : Tags} (h : Step C a Ta w T) {b : Nat} {t : Tag} (hb : a.heap.size ≤ b) (hlt : b < w.heap.size) (ht : C t = true) :
    Step C a Ta w (T.put b t) where
  os := h.os
  tape := h.tape
  output := h.output
  size := h.size
  old := fun k hk => by rw [Tags.put_other T t (by omega)]; exact h.old k hk
  same := h.same
  new := fun k hk => by
    by_cases e : k = b
    · subst e; left; rw [Tags.put_same]; exact ht
    · rw [Tags.put_other T t e]; exact h.new k hk
  fresh := fun k hk => by rw [Tags.put_other T t (by omega)]; exact h.fresh k hk

theorem Step.drew {C : Tag → Bool} {a w : World} {Ta T : Tags} (h : Step C a Ta w T) : Step C a Ta w.drew T :=
  ⟨h.os, h.tape, h.output, h.size, h.old, h.same, h.new, h.fresh⟩

theorem Step.drewN {C : Tag → Bool} {a w : World} {Ta T : Tags} (h : Step C a Ta w T) (n : Nat) : Step C a Ta (w.drewN n) T :=
  ⟨h.os, h.tape, h.output, h.size, h.old, h.same, h.new, h.fresh⟩

theorem below_drewN' {B : Nat} {a w : World} (h : Below B a w) (n : Nat) : Below B a (w.drewN n) := ⟨h.os, h.tape, h.output, h.size, h.block⟩

/-- an append's own words. -/
theorem Step.grown {C : Tag → Bool} {a w w' : World} {Ta T : Tags} (h : Step C a Ta w T) {row : Option Nat} (hg : w.grownBy w' row) (hr : ∀ k, row = some k → C (T k) = true) :
    Step C a Ta w' T :=
  h.trans ⟨hg.os, hg.tape, hg.output, hg.size, fun _ _ => rfl, fun k hk hc => hg.block k hk (fun e => by have := hr k e.symm; rw [hc] at this; cases this),
    fun k hk => .inr (h.fresh k hk), fun k hk => h.fresh k (Nat.le_trans hg.size hk)⟩

/-- what leaves all old blocks alone. -/
theorem Step.below {C : Tag → Bool} {a w w' : World} {Ta T : Tags} (h : Step C a Ta w T) (hb : Below w.heap.size w w') : Step C a Ta w' T :=
  h.trans ⟨hb.os, hb.tape, hb.output, hb.size, fun _ _ => rfl, fun k hk _ => hb.block k hk,
    fun k hk => .inr (h.fresh k hk), fun k hk => h.fresh k (Nat.le_trans hb.size hk)⟩

/-- where no block of the class was there, nothing old has turned. -/
theorem Step.toBelow {C : Tag → Bool} {w w' : World} {T T' : Tags} (h : Step C w T w' T') (hn : ∀ k, k < w.heap.size → C (T k) = false) : Below w.heap.size w w' :=
  ⟨h.os, h.tape, h.output, h.size, fun k hk => h.same k hk (hn k hk)⟩

/-! ### Bytes -/
abbrev Bs := List UInt8
def cells (l : Bs) : List Value := l.map fun b => .int .u8 b.toNat
def str (l : Bs) : Value := .string ⟨l.toArray⟩

theorem cells_length (l : Bs) : (cells l).length = l.length := by simp [cells]
theorem cells_append (a b : Bs) : cells (a ++ b) = cells a ++ cells b := by simp [cells]
theorem cells_get (l : Bs) (j : Nat) : (cells l)[j]? = (l[j]?).map fun b => .int .u8 b.toNat := by simp [cells]
theorem cells_take (l : Bs) (n : Nat) : (cells l).take n = cells (l.take n) := by simp [cells, List.map_take]
theorem cells_drop (l : Bs) (n : Nat) : (cells l).drop n = cells (l.drop n) := by simp [cells, List.map_drop]
theorem cells_one (l : Bs) : ∀ u ∈ cells l, u.oneCell' = true := by
  intro u hu; obtain ⟨_, _, rfl⟩ := List.mem_map.1 hu; rfl
theorem cells_inj {a b : Bs} (h : cells a = cells b) : a = b := by
  unfold cells at h
  induction a generalizing b with
  | nil => cases b with
    | nil => rfl
    | cons => simp at h
  | cons x a ih => cases b with
    | nil => simp at h
    | cons y b =>
      simp only [List.map_cons, List.cons.injEq, Value.int.injEq, true_and] at h
      rw [ih h.2]
      congr 1
      have h1 := h.1
      exact UInt8.toNat_inj.1 (by omega)

/-- a row of the program's own: nil, or a whole block at whose head it lies, of one tag. -/
def RowT (w : World) (T : Tags) (t : Tag) (E : TypeId) (sz : Nat) (v : Value) (n : Nat) (xs : List Value) : Prop :=
  w.ownsRow 0 E sz v n xs ∧ ∀ g, v.ownBlock = some g → T g = t

theorem RowT.kept {C : Tag → Bool} {w w' : World} {T T' : Tags} {t : Tag} {E : TypeId} {sz n : Nat} {v : Value} {xs : List Value} (h : RowT w T t E sz v n xs)
    (hs : Step C w T w' T') (hc : C t = false) : RowT w' T' t E sz v n xs := by
  obtain ⟨⟨h1, h2⟩, h3⟩ := h
  refine ⟨⟨h1, ?_⟩, ?_⟩
  · rcases h2 with h2 | ⟨g, cap, cur, rfl, hb, hg, r⟩
    · exact .inl h2
    · exact .inr ⟨g, cap, cur, rfl, hb, hs.at hg (by rw [h3 g rfl]; exact hc), r⟩
  · intro g hg
    rcases h2 with ⟨rfl, _⟩ | ⟨g', cap, cur, rfl, hb, hg', r⟩
    · simp [Value.ownBlock] at hg
    · simp [Value.ownBlock] at hg; subst hg
      exact hs.tag hg' (h3 _ rfl)

/-- kept where the world differs at other blocks alone. -/
theorem RowT.other {w w' : World} {T : Tags} {t : Tag} {E : TypeId} {sz n : Nat} {v : Value} {xs : List Value} (h : RowT w T t E sz v n xs)
    (hs : ∀ k, T k = t → k < w.heap.size → w'.heap[k]? = w.heap[k]?) : RowT w' T t E sz v n xs := by
  obtain ⟨⟨h1, h2⟩, h3⟩ := h
  refine ⟨⟨h1, ?_⟩, h3⟩
  rcases h2 with h2 | ⟨g, cap, cur, rfl, hb, hg, r⟩
  · exact .inl h2
  · exact .inr ⟨g, cap, cur, rfl, hb, (hs g (h3 g rfl) (lt_of_at hg)).trans hg, r⟩

theorem RowT.retag {w : World} {T T' : Tags} {t : Tag} {E : TypeId} {sz n : Nat} {v : Value} {xs : List Value} (h : RowT w T t E sz v n xs)
    (hs : ∀ k, k < w.heap.size → T k = t → T' k = t) : RowT w T' t E sz v n xs :=
  ⟨h.1, fun g hg => hs g (h.1.lt g hg).2 (h.2 g hg)⟩

theorem RowT.nil (w : World) (T : Tags) (t : Tag) (E : TypeId) (sz : Nat) : RowT w T t E sz (.slice none 0 0) 0 [] :=
  ⟨World.ownsRow_nil _ _ _ _, fun g hg => by simp [Value.ownBlock] at hg⟩

/-- a row's value written out. -/
theorem RowT.cases {w : World} {T : Tags} {t : Tag} {E : TypeId} {sz n : Nat} {v : Value} {xs : List Value} (h : RowT w T t E sz v n xs) :
    (v = .slice none 0 0 ∧ n = 0 ∧ xs = []) ∨ ∃ g cap cur, v = .slice (some ⟨g, 0, none⟩) n cap ∧ T g = t ∧ w.heap[g]? = some (.cells cur E (0, 0)) ∧ n ≤ cap ∧ cap ≤ maxLen ∧ cur.size = cap * sz ∧ cur.toList.take (n * sz) = xs := by
  obtain ⟨⟨h1, h2⟩, h3⟩ := h
  rcases h2 with ⟨rfl, rfl⟩ | ⟨g, cap, cur, rfl, _, hg, r⟩
  · exact .inl ⟨rfl, rfl, List.eq_nil_of_length_eq_zero (by simpa using h1)⟩
  · exact .inr ⟨g, cap, cur, rfl, h3 g rfl, hg, r⟩

theorem RowT.mk {w : World} {T : Tags} {t : Tag} {E : TypeId} {sz n g cap : Nat} {cur : Array Value} {xs : List Value} (hx : xs.length = n * sz) (hT : T g = t) (hg : w.heap[g]? = some (.cells cur E (0, 0))) (h1 : n ≤ cap) (h2 : cap ≤ maxLen) (h3 : cur.size = cap * sz) (h4 : cur.toList.take (n * sz) = xs) :
    RowT w T t E sz (.slice (some ⟨g, 0, none⟩) n cap) n xs :=
  ⟨⟨hx, .inr ⟨g, cap, cur, rfl, Nat.zero_le _, hg, h1, h2, h3, h4⟩⟩, fun k hk => by simp [Value.ownBlock] at hk; subst hk; exact hT⟩

theorem Step.other {C : Tag → Bool} {w w' : World} {T : Tags} (h : Step C w T w' T) {t : Tag} (ht : C t = false) : ∀ k, T k = t → k < w.heap.size → w'.heap[k]? = w.heap[k]? :=
  fun k hk hlt => h.same k hlt (by rw [hk]; exact ht)

def upd {α : Type} (f : Nat → α) (i : Nat) (x : α) : Nat → α := fun j => if j = i then x else f j
theorem upd_same {α : Type} (f : Nat → α) (i : Nat) (x : α) : upd f i x i = x := by simp [upd]
theorem upd_other {α : Type} (f : Nat → α) {i j : Nat} (x : α) (h : j ≠ i) : upd f i x j = f j := by simp [upd, h]

/-- a stop for the walk: no step of its own goes on behind it. -/
def Hold (p : Prop) : Prop := p
theorem hold_of {p : Prop} (h : Hold p) : p := h

end Go.Vs

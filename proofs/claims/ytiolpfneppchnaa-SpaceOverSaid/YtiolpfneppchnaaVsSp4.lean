/- The space (layer 5): page 0 and the chain of free pages, as plain lists of bytes; what an action sees. -/
import Derived.Test.YtiolpfneppchnaaVsSp3
namespace Go.Proofs.Ytiolpfneppchnaa
open Go Go.RowKit Go.Vs

theorem getD_drop (b : Bs) (i j : Nat) : (b.drop i).getD j 0 = b.getD (i + j) 0 := by
  rw [List.getD_eq_getElem?_getD, List.getD_eq_getElem?_getD, List.getElem?_drop]

theorem num4_same {b c : Bs} {i k : Nat} (h : ∀ j, j < 4 → b.getD (i + j) 0 = c.getD (k + j) 0) : num4 (b.drop i) = num4 (c.drop k) := by
  unfold num4
  simp only [getD_drop]
  rw [h 0 (by omega), h 1 (by omega), h 2 (by omega), h 3 (by omega)]

theorem num4_lay_same (b x : Bs) (at' : Nat) (hx : x.length = 4) (hl : at' + 4 ≤ b.length) : num4 ((lay b at' x).drop at') = num4 x := by
  have := num4_same (b := lay b at' x) (c := x) (i := at') (k := 0) (fun j hj => by
    rw [lay_getD _ _ _ (by omega), if_pos (by omega)]
    congr 1
    omega)
  simpa using this

theorem num4_lay_other (b x : Bs) (at' i : Nat) (hl : at' + x.length ≤ b.length) (h : i + 4 ≤ at' ∨ at' + x.length ≤ i) : num4 ((lay b at' x).drop i) = num4 (b.drop i) :=
  num4_same (fun j hj => by rw [lay_getD _ _ _ hl, if_neg (by omega)])

theorem num4_take (b : Bs) (h : 4 ≤ b.length) : num4 (b.take 4) = num4 b := by
  match b, h with
  | x0 :: x1 :: x2 :: x3 :: l, _ => simp [num4]

theorem num4_zeros : num4 (zeros 512) = 0 := by
  unfold num4
  rw [zeros_getD, zeros_getD, zeros_getD, zeros_getD]; rfl

theorem num4_zeros_drop (i : Nat) : num4 ((zeros 512).drop i) = 0 := by
  unfold num4
  simp only [getD_drop, zeros_getD]
  rfl

def tot (cur : Nat → Bs) : Nat := num4 (cur 0)
def headOf (cur : Nat → Bs) : Nat := num4 ((cur 0).drop 4)
def rootOf (cur : Nat → Bs) (k : Nat) : Nat := num4 ((cur 0).drop (8 + 4 * k))

def Chain (cur : Nat → Bs) (t : Nat) : Nat → List Nat → Prop
  | n, [] => n = 0
  | n, q :: l => n = q ∧ 1 ≤ q ∧ q ≤ t ∧ Chain cur t (num4 (cur q)) l

theorem Chain.congr {cur cur' : Nat → Bs} {t t' : Nat} : ∀ {l : List Nat} {n : Nat}, Chain cur t n l → t ≤ t' → (∀ q, q ∈ l → num4 (cur' q) = num4 (cur q)) → Chain cur' t' n l
  | [], _, h, _, _ => h
  | q :: l, n, ⟨h1, h2, h3, h4⟩, ht, he => ⟨h1, h2, by omega, by
      rw [he q (by simp)]
      exact Chain.congr h4 ht (fun r hr => he r (by simp [hr]))⟩

theorem Chain.mem {cur : Nat → Bs} {t : Nat} : ∀ {l : List Nat} {n : Nat}, Chain cur t n l → ∀ q ∈ l, 1 ≤ q ∧ q ≤ t
  | _ :: l, _, ⟨_, h2, h3, h4⟩, r, hr => by
    rcases List.mem_cons.1 hr with rfl | hr
    · exact ⟨h2, h3⟩
    · exact h4.mem r hr

/-- what page 0 and the free pages say. -/
structure Meta (cur : Nat → Bs) (fl : List Nat) : Prop where
  len : ∀ q, q < 4096 → (cur q).length = 512
  tle : tot cur < 4096
  chain : Chain cur (tot cur) (headOf cur) fl
  nodup : fl.Nodup

def GoneIs (gone : Int → Bool) (fl : List Nat) : Prop := ∀ k, gone k = true ↔ ∃ q : Nat, q ∈ fl ∧ k = q

/-- the pages that there are, and their bytes; roots; how many pages there are. -/
structure View where
  pages : Nat → Option Bs
  roots : Nat → Nat
  total : Nat

structure Sees (cur : Nat → Bs) (fl : List Nat) (V : View) : Prop where
  total : tot cur = V.total
  pages : ∀ q, V.pages q = if 1 ≤ q ∧ q ≤ V.total ∧ q ∉ fl then some (cur q) else none
  roots : ∀ k, k < 16 → V.roots k = rootOf cur k

def ActV (E : AEnv) (w : World) (T : Tags) (V : View) : Prop :=
  ∃ cur fl gone pv, ActR E w T cur gone pv ∧ Meta cur fl ∧ GoneIs gone fl ∧ (∀ q : Nat, pv q ≠ none → q ≤ tot cur) ∧ Sees cur fl V

theorem ActV.kept {C : Tag → Bool} {E : AEnv} {w w' : World} {T T' : Tags} {V : View} (h : ActV E w T V) (hs : Step C w T w' T') (hc : ∀ t, isAll t = true → C t = false) : ActV E w' T' V := by
  obtain ⟨cur, fl, gone, pv, h1, h2⟩ := h; exact ⟨cur, fl, gone, pv, h1.kept hs hc, h2⟩

theorem Sees.yes {cur : Nat → Bs} {fl : List Nat} {V : View} (h : Sees cur fl V) {q : Nat} {b : Bs} (hq : V.pages q = some b) : 1 ≤ q ∧ q ≤ tot cur ∧ q ∉ fl ∧ cur q = b := by
  rw [h.pages] at hq
  split at hq
  · rename_i h'
    exact ⟨h'.1, by rw [h.total]; exact h'.2.1, h'.2.2, Option.some.inj hq⟩
  · cases hq

theorem Sees.no {cur : Nat → Bs} {fl : List Nat} {V : View} (h : Sees cur fl V) {q : Nat} (hq : V.pages q = none) : ¬ (1 ≤ q ∧ q ≤ tot cur ∧ q ∉ fl) := by
  rw [h.pages, ← h.total] at hq
  split at hq
  · cases hq
  · assumption

/-- page 0's words alone turned. -/
theorem Meta.zero {cur : Nat → Bs} {fl : List Nat} (h : Meta cur fl) (b0 : Bs) (hl : b0.length = 512) (h1 : num4 b0 = tot cur) (h2 : num4 (b0.drop 4) = headOf cur) : Meta (upd cur 0 b0) fl where
  len := fun q hq => by
    by_cases e : q = 0
    · subst e; rw [upd_same]; exact hl
    · rw [upd_other _ _ e]; exact h.len q hq
  tle := by unfold tot; rw [upd_same, h1]; exact h.tle
  chain := by
    unfold tot headOf
    rw [upd_same, h1, h2]
    exact h.chain.congr (Nat.le_refl _) (fun q hq => by rw [upd_other _ _ (by have := (h.chain.mem q hq).1; omega)])
  nodup := h.nodup

/-- a page that is none of the free ones turned. -/
theorem Meta.page {cur : Nat → Bs} {fl : List Nat} (h : Meta cur fl) {q : Nat} (b : Bs) (hl : b.length = 512) (hq : q ≠ 0) (hf : q ∉ fl) : Meta (upd cur q b) fl where
  len := fun r hr => by
    by_cases e : r = q
    · subst e; rw [upd_same]; exact hl
    · rw [upd_other _ _ e]; exact h.len r hr
  tle := by unfold tot; rw [upd_other _ _ (Ne.symm hq)]; exact h.tle
  chain := by
    unfold tot headOf
    rw [upd_other _ _ (Ne.symm hq)]
    exact h.chain.congr (Nat.le_refl _) (fun r hr => by rw [upd_other _ _ (fun e => hf (by rw [← e]; exact hr))])
  nodup := h.nodup

/-- Write. -/
theorem Sees.write {cur : Nat → Bs} {fl : List Nat} {V : View} (h : Sees cur fl V) {q : Nat} (b : Bs) (h1 : 1 ≤ q) (h2 : q ≤ tot cur) (hf : q ∉ fl) : Sees (upd cur q b) fl { V with pages := upd V.pages q (some b) } where
  total := by unfold tot; rw [upd_other _ _ (by omega)]; exact h.total
  pages := fun r => by
    show upd V.pages q (some b) r = _
    by_cases e : r = q
    · subst e; rw [upd_same, upd_same, if_pos ⟨h1, by rw [← h.total]; exact h2, hf⟩]
    · rw [upd_other _ _ e, upd_other _ _ e]; exact h.pages r
  roots := fun k hk => by unfold rootOf; rw [upd_other _ _ (by omega)]; exact h.roots k hk

/-- SetRoot. -/
theorem Sees.setRoot {cur : Nat → Bs} {fl : List Nat} {V : View} (hm : Meta cur fl) (h : Sees cur fl V) (k n : Nat) (hk : k < 16) (hn : n < 4294967296) :
    Meta (upd cur 0 (lay (cur 0) (8 + 4 * k) (be4 n))) fl ∧ Sees (upd cur 0 (lay (cur 0) (8 + 4 * k) (be4 n))) fl { V with roots := upd V.roots k n } ∧ tot (upd cur 0 (lay (cur 0) (8 + 4 * k) (be4 n))) = tot cur := by
  have hl := hm.len 0 (by omega)
  have hb : (be4 n).length = 4 := rfl
  have hll : (lay (cur 0) (8 + 4 * k) (be4 n)).length = 512 := by rw [lay_length _ _ _ (by omega)]; exact hl
  have h1 : num4 (lay (cur 0) (8 + 4 * k) (be4 n)) = tot cur := by
    have := num4_lay_other (cur 0) (be4 n) (8 + 4 * k) 0 (by omega) (.inl (by omega))
    simpa [tot] using this
  have h2 : num4 ((lay (cur 0) (8 + 4 * k) (be4 n)).drop 4) = headOf cur := num4_lay_other (cur 0) (be4 n) (8 + 4 * k) 4 (by omega) (.inl (by omega))
  refine ⟨hm.zero _ hll h1 h2, ⟨?_, ?_, ?_⟩, ?_⟩
  · unfold tot; rw [upd_same, h1]; exact h.total
  · intro q
    show V.pages q = _
    rw [h.pages q]
    by_cases e : 1 ≤ q
    · rw [upd_other _ _ (by omega)]
    · rw [if_neg (by omega), if_neg (by show ¬ (1 ≤ q ∧ _); omega)]
  · intro j hj
    show upd V.roots k n j = _
    unfold rootOf
    rw [upd_same]
    by_cases e : j = k
    · subst e; rw [upd_same, num4_lay_same _ _ _ hb (by omega), num4_be4 n hn]
    · rw [upd_other _ _ e, num4_lay_other _ _ _ _ (by omega) (by omega)]; exact h.roots j hj
  · unfold tot; rw [upd_same]; exact h1

/-- Alloc of a page that was free. -/
theorem Sees.allocFree {cur : Nat → Bs} {q : Nat} {fl : List Nat} {V : View} (hm : Meta cur (q :: fl)) (h : Sees cur (q :: fl) V) :
    Meta (upd (upd cur 0 (lay (cur 0) 4 ((cur q).take 4))) q (zeros 512)) fl ∧ Sees (upd (upd cur 0 (lay (cur 0) 4 ((cur q).take 4))) q (zeros 512)) fl { V with pages := upd V.pages q (some (zeros 512)) } ∧
      tot (upd (upd cur 0 (lay (cur 0) 4 ((cur q).take 4))) q (zeros 512)) = tot cur ∧ V.pages q = none ∧ headOf cur = q ∧ 1 ≤ q ∧ q ≤ tot cur := by
  obtain ⟨c1, c2, c3, c4⟩ := hm.chain
  have hl := hm.len 0 (by omega)
  have hlq := hm.len q (by have := hm.tle; omega)
  have hb : ((cur q).take 4).length = 4 := by rw [List.length_take]; omega
  have hll : (lay (cur 0) 4 ((cur q).take 4)).length = 512 := by rw [lay_length _ _ _ (by omega)]; exact hl
  have h1 : num4 (lay (cur 0) 4 ((cur q).take 4)) = tot cur := by
    have := num4_lay_other (cur 0) ((cur q).take 4) 4 0 (by omega) (.inl (by omega))
    simpa [tot] using this
  have h2 : num4 ((lay (cur 0) 4 ((cur q).take 4)).drop 4) = num4 (cur q) := by rw [num4_lay_same _ _ _ hb (by omega), num4_take _ (by omega)]
  have hnd := List.nodup_cons.1 hm.nodup
  have hne : ∀ r ∈ fl, r ≠ q := fun r hr e => hnd.1 (by rw [← e]; exact hr)
  have et : tot (upd (upd cur 0 (lay (cur 0) 4 ((cur q).take 4))) q (zeros 512)) = tot cur := by
    unfold tot; rw [upd_other _ _ (by omega : (0 : Nat) ≠ q), upd_same]; exact h1
  have eh : headOf (upd (upd cur 0 (lay (cur 0) 4 ((cur q).take 4))) q (zeros 512)) = num4 (cur q) := by
    unfold headOf; rw [upd_other _ _ (by omega : (0 : Nat) ≠ q), upd_same]; exact h2
  refine ⟨⟨?_, by rw [et]; exact hm.tle, ?_, hnd.2⟩, ⟨by rw [et]; exact h.total, ?_, ?_⟩, et, ?_, c1, c2, c3⟩
  · intro r hr
    by_cases e : r = q
    · subst e; rw [upd_same]; exact zeros_length 512
    · rw [upd_other _ _ e]
      by_cases e : r = 0
      · subst e; rw [upd_same]; exact hll
      · rw [upd_other _ _ e]; exact hm.len r hr
  · rw [et, eh]
    exact c4.congr (Nat.le_refl _) (fun r hr => by rw [upd_other _ _ (hne r hr), upd_other _ _ (by have := (c4.mem r hr).1; omega)])
  · intro r
    show upd V.pages q (some (zeros 512)) r = _
    by_cases e : r = q
    · subst e; rw [upd_same, upd_same, if_pos ⟨c2, by show r ≤ V.total; rw [← h.total]; exact c3, hnd.1⟩]
    · rw [upd_other _ _ e, upd_other _ _ e, h.pages r]
      by_cases e0 : 1 ≤ r
      · rw [upd_other _ _ (by omega)]
        simp [e]
      · rw [if_neg (by omega), if_neg (by show ¬ (1 ≤ r ∧ _); omega)]
  · intro k hk
    show V.roots k = _
    unfold rootOf
    rw [upd_other _ _ (by omega : (0 : Nat) ≠ q), upd_same, num4_lay_other _ _ _ _ (by omega) (by omega)]
    exact h.roots k hk
  · rw [h.pages, if_neg (by simp)]

/-- Alloc of a new page. -/
theorem Sees.allocNew {cur : Nat → Bs} {V : View} (hm : Meta cur []) (h : Sees cur [] V) (ht : tot cur + 1 < 4096) :
    Meta (upd (upd cur 0 (lay (cur 0) 0 (be4 (tot cur + 1)))) (tot cur + 1) (zeros 512)) [] ∧ Sees (upd (upd cur 0 (lay (cur 0) 0 (be4 (tot cur + 1)))) (tot cur + 1) (zeros 512)) [] { V with pages := upd V.pages (tot cur + 1) (some (zeros 512)), total := tot cur + 1 } ∧
      tot (upd (upd cur 0 (lay (cur 0) 0 (be4 (tot cur + 1)))) (tot cur + 1) (zeros 512)) = tot cur + 1 ∧ V.pages (tot cur + 1) = none ∧ headOf cur = 0 ∧ ∀ q, 1 ≤ q → q ≤ tot cur → V.pages q ≠ none := by
  have hl := hm.len 0 (by omega)
  obtain ⟨q, hq⟩ : ∃ q, q = tot cur + 1 := ⟨_, rfl⟩
  rw [← hq] at ht ⊢
  have hb : (be4 q).length = 4 := rfl
  have hll : (lay (cur 0) 0 (be4 q)).length = 512 := by rw [lay_length _ _ _ (by omega)]; exact hl
  have h1 : num4 (lay (cur 0) 0 (be4 q)) = q := by
    have := num4_lay_same (cur 0) (be4 q) 0 hb (by omega)
    rw [num4_be4 q (by omega)] at this
    simpa using this
  have et : tot (upd (upd cur 0 (lay (cur 0) 0 (be4 q))) q (zeros 512)) = q := by
    unfold tot; rw [upd_other _ _ (by omega : (0 : Nat) ≠ q), upd_same]; exact h1
  have eh : headOf (upd (upd cur 0 (lay (cur 0) 0 (be4 q))) q (zeros 512)) = headOf cur := by
    unfold headOf; rw [upd_other _ _ (by omega : (0 : Nat) ≠ q), upd_same]; exact num4_lay_other _ _ _ _ (by omega) (by omega)
  refine ⟨⟨?_, by rw [et]; exact ht, ?_, hm.nodup⟩, ⟨et, ?_, ?_⟩, et, ?_, hm.chain, ?_⟩
  · intro r hr
    by_cases e : r = q
    · subst e; rw [upd_same]; exact zeros_length 512
    · rw [upd_other _ _ e]
      by_cases e : r = 0
      · subst e; rw [upd_same]; exact hll
      · rw [upd_other _ _ e]; exact hm.len r hr
  · rw [eh]; exact hm.chain
  · intro r
    show upd V.pages q (some (zeros 512)) r = if 1 ≤ r ∧ r ≤ q ∧ r ∉ [] then _ else _
    by_cases e : r = q
    · subst e; rw [upd_same, upd_same, if_pos ⟨by omega, Nat.le_refl _, by simp⟩]
    · rw [upd_other _ _ e, upd_other _ _ e, h.pages r, ← h.total]
      by_cases e0 : 1 ≤ r
      · rw [upd_other _ _ (by omega)]
        by_cases e1 : r ≤ tot cur
        · rw [if_pos ⟨e0, e1, by simp⟩, if_pos ⟨e0, by omega, by simp⟩]
        · rw [if_neg (by omega), if_neg (by omega)]
      · rw [if_neg (by omega), if_neg (by omega)]
  · intro k hk
    show V.roots k = _
    unfold rootOf
    rw [upd_other _ _ (by omega : (0 : Nat) ≠ q), upd_same, num4_lay_other _ _ _ _ (by omega) (by omega)]
    exact h.roots k hk
  · rw [h.pages, if_neg (by rw [← h.total]; omega)]
  · intro r hr1 hr2
    rw [h.pages, if_pos ⟨hr1, by rw [← h.total]; exact hr2, by simp⟩]
    simp

/-- Free. -/
theorem Sees.free {cur : Nat → Bs} {fl : List Nat} {V : View} (hm : Meta cur fl) (h : Sees cur fl V) {q : Nat} (h1 : 1 ≤ q) (h2 : q ≤ tot cur) (hf : q ∉ fl) (b0 bq : Bs) (e0 : b0 = lay (cur 0) 4 (be4 q)) (eq : bq = lay (zeros 512) 0 (((cur 0).drop 4).take 4)) :
    Meta (upd (upd cur q bq) 0 b0) (q :: fl) ∧ Sees (upd (upd cur q bq) 0 b0) (q :: fl) { V with pages := upd V.pages q none } ∧ tot (upd (upd cur q bq) 0 b0) = tot cur := by
  have hl := hm.len 0 (by omega)
  have ht := hm.tle
  have hb : (be4 q).length = 4 := rfl
  have hx : (((cur 0).drop 4).take 4).length = 4 := by rw [List.length_take, List.length_drop]; omega
  have hz := zeros_length 512
  have hl0 : b0.length = 512 := by rw [e0, lay_length _ _ _ (by omega)]; exact hl
  have hlq : bq.length = 512 := by rw [eq, lay_length _ _ _ (by omega)]; exact hz
  have n1 : num4 b0 = tot cur := by
    have := num4_lay_other (cur 0) (be4 q) 4 0 (by omega) (.inl (by omega))
    rw [e0]; simpa [tot] using this
  have n2 : num4 (b0.drop 4) = q := by rw [e0, num4_lay_same _ _ _ hb (by omega), num4_be4 q (by omega)]
  have n3 : num4 bq = headOf cur := by
    have := num4_lay_same (zeros 512) (((cur 0).drop 4).take 4) 0 hx (by omega)
    rw [List.drop_zero, num4_take _ (by rw [List.length_drop]; omega)] at this
    rw [eq, this]; rfl
  have et : tot (upd (upd cur q bq) 0 b0) = tot cur := by unfold tot; rw [upd_same]; exact n1
  refine ⟨⟨?_, by rw [et]; exact ht, ?_, List.nodup_cons.2 ⟨hf, hm.nodup⟩⟩, ⟨by rw [et]; exact h.total, ?_, ?_⟩, et⟩
  · intro r hr
    by_cases e : r = 0
    · subst e; rw [upd_same]; exact hl0
    · rw [upd_other _ _ e]
      by_cases e : r = q
      · subst e; rw [upd_same]; exact hlq
      · rw [upd_other _ _ e]; exact hm.len r hr
  · rw [et]
    refine ⟨by unfold headOf; rw [upd_same]; exact n2, h1, h2, ?_⟩
    rw [upd_other _ _ (by omega : q ≠ 0), upd_same, n3]
    exact hm.chain.congr (Nat.le_refl _) (fun r hr => by rw [upd_other _ _ (by have := (hm.chain.mem r hr).1; omega), upd_other _ _ (fun e => hf (by rw [← e]; exact hr))])
  · intro r
    show upd V.pages q none r = _
    by_cases e : r = q
    · subst e; rw [upd_same, if_neg (by simp)]
    · rw [upd_other _ _ e, h.pages r]
      by_cases e0 : 1 ≤ r
      · rw [upd_other _ _ (by omega), upd_other _ _ e]
        simp [e]
      · rw [if_neg (by omega), if_neg (by show ¬ (1 ≤ r ∧ _); omega)]
  · intro k hk
    show V.roots k = _
    unfold rootOf
    rw [upd_same, e0, num4_lay_other _ _ _ _ (by omega) (by omega)]
    exact h.roots k hk
end Go.Proofs.Ytiolpfneppchnaa

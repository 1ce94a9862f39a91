/- Pages of a file, as lists of bytes; no program in sight. -/
import Derived.Test.YtiolpfneppchnaaVsDisk
namespace Go.Proofs.Ytiolpfneppchnaa
open Go Go.RowKit Go.Vs

/-- a file's page, filled up with noughts. -/
def pg (b : Bs) (q : Nat) : Bs := (List.range 512).map fun j => b.getD (q * 512 + j) 0

theorem pg_length (b : Bs) (q : Nat) : (pg b q).length = 512 := by simp [pg]

theorem pg_get (b : Bs) (q j : Nat) (h : j < 512) : (pg b q)[j]? = some (b.getD (q * 512 + j) 0) := by
  simp [pg, h]

theorem pg_ext {x : Bs} {b : Bs} {q : Nat} (hl : x.length = 512) (h : ∀ j, j < 512 → x[j]? = some (b.getD (q * 512 + j) 0)) : x = pg b q := by
  apply List.ext_getElem?
  intro j
  by_cases hj : j < 512
  · rw [h j hj, pg_get b q j hj]
  · rw [List.getElem?_eq_none (by omega), List.getElem?_eq_none (by rw [pg_length]; omega)]

theorem getD_append_zeros (b : Bs) (m k : Nat) : (b ++ List.replicate m 0).getD k 0 = b.getD k 0 := by
  rw [List.getD_eq_getElem?_getD, List.getD_eq_getElem?_getD]
  by_cases h : k < b.length
  · rw [List.getElem?_append_left h]
  · rw [List.getElem?_append_right (by omega), List.getElem?_replicate, List.getElem?_eq_none (by omega : b.length ≤ k)]
    split <;> rfl

theorem lay_getD (old : Bs) (a : Nat) (s : Bs) (h : a + s.length ≤ old.length) (k : Nat) :
    (lay old a s).getD k 0 = if a ≤ k ∧ k < a + s.length then s.getD (k - a) 0 else old.getD k 0 := by
  unfold lay
  rw [List.getD_eq_getElem?_getD, List.getD_eq_getElem?_getD, List.getD_eq_getElem?_getD]
  have ht : (old.take a).length = a := by simp; omega
  by_cases h1 : k < a
  · rw [List.append_assoc, List.getElem?_append_left (by rw [ht]; exact h1), List.getElem?_take, if_pos h1, if_neg (by omega)]
  · by_cases h2 : k < a + s.length
    · rw [List.append_assoc, List.getElem?_append_right (by rw [ht]; omega), ht, List.getElem?_append_left (by omega), if_pos ⟨by omega, h2⟩]
    · rw [List.getElem?_append_right (by rw [List.length_append, ht]; omega), List.length_append, ht, List.getElem?_drop, if_neg (by omega)]
      congr 2
      omega

theorem wr_getD (old : Bs) (a : Nat) (s : Bs) (k : Nat) :
    (wr old a s).getD k 0 = if a ≤ k ∧ k < a + s.length then s.getD (k - a) 0 else old.getD k 0 := by
  unfold wr
  rw [lay_getD _ _ _ (by simp; omega), getD_append_zeros]

theorem getD_some {s : Bs} {j : Nat} (h : j < s.length) : s[j]? = some (s.getD j 0) := by
  rw [List.getD_eq_getElem?_getD, List.getElem?_eq_getElem h]; rfl

theorem pg_wr_same (b s : Bs) (q : Nat) (h : s.length = 512) : pg (wr b (q * 512) s) q = s := by
  refine (pg_ext h fun j hj => ?_).symm
  rw [wr_getD, if_pos (by omega), show q * 512 + j - q * 512 = j by omega]
  exact getD_some (by omega)

theorem pg_wr_other (b s : Bs) (q r : Nat) (h : s.length = 512) (hr : r ≠ q) : pg (wr b (q * 512) s) r = pg b r := by
  refine (pg_ext (pg_length _ _) fun j hj => ?_)
  rw [pg_get _ _ _ hj, wr_getD, if_neg]
  intro ⟨h1, h2⟩
  apply hr
  omega

/-- noughts (a name of their own, so that no simplifier writes them out). -/
def zeros (n : Nat) : Bs := List.replicate n 0
theorem zeros_length (n : Nat) : (zeros n).length = n := List.length_replicate
theorem zeros_get (n j : Nat) (h : j < n) : (zeros n)[j]? = some 0 := by
  unfold zeros; rw [List.getElem?_replicate, if_pos h]
theorem zeros_getD (n j : Nat) : (zeros n).getD j 0 = 0 := by
  unfold zeros
  rw [List.getD_eq_getElem?_getD, List.getElem?_replicate]
  split <;> rfl
theorem cells_zeros (n : Nat) : cells (zeros n) = List.replicate n (.int .u8 0) := by simp [zeros, cells]

theorem pg_of (b : Bs) (q m : Nat) (h : m = min (b.length - q * 512) 512) : lay (zeros 512) 0 ((b.drop (q * 512)).take m) = pg b q := by
  have hl : ((b.drop (q * 512)).take m).length = m := by rw [List.length_take, List.length_drop]; omega
  have hz := zeros_length 512
  have h1 : (lay (zeros 512) 0 ((b.drop (q * 512)).take m)).length = 512 := by
    rw [lay_length _ _ _ (by rw [hl, hz]; omega)]; exact hz
  refine pg_ext h1 fun j hj => ?_
  rw [getD_some (by omega), lay_getD _ _ _ (by rw [hl, hz]; omega), hl, zeros_getD]
  congr 1
  rw [List.getD_eq_getElem?_getD, List.getD_eq_getElem?_getD, List.getElem?_take, List.getElem?_drop, Nat.sub_zero]
  by_cases hm : j < m
  · rw [if_pos (by omega), if_pos (by omega)]
  · have hge : b.length ≤ q * 512 + j := by omega
    rw [if_neg (by omega), List.getElem?_eq_none hge]
    rfl

theorem pg_zero (b : Bs) (q : Nat) (h : b.length ≤ q * 512) : pg b q = zeros 512 := by
  have hz := zeros_length 512
  symm
  apply pg_ext hz
  intro j hj
  have hge : b.length ≤ q * 512 + j := Nat.le_trans h (Nat.le_add_right _ _)
  rw [zeros_get 512 j hj, List.getD_eq_getElem?_getD, List.getElem?_eq_none hge, Option.getD_none]

theorem pg_nil (q : Nat) : pg [] q = zeros 512 := pg_zero [] q (by rw [List.length_nil]; omega)

end Go.Proofs.Ytiolpfneppchnaa

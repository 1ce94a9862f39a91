/- The pool (layer 4): Write of a whole page. -/
import Derived.Test.YtiolpfneppchnaaVsPool10
namespace Go.Proofs.Ytiolpfneppchnaa
open Go Go.RowKit Go.Vs

/-- a pinned frame takes new bytes. -/
theorem PoolL.wrote {n most hand : Nat} {fr : Nat → Fr} {at' : Int → Option Nat} {base : Nat → Bs} {f1 : Bs} {N nr i page : Nat} {pin : Option Nat} (L : PoolL n most hand fr at' base f1 N nr none pin) (x : Fr) (bs : Bs) (ha : at' page = some i)
    (h1 : x.page = (fr i).page) (h2 : x.bytes = bs) (h3 : x.changed = true) (h4 : x.pins = (fr i).pins) (hl : bs.length = 512) : PoolL n most hand (upd fr i x) at' (upd base page bs) f1 (N + 1) nr none pin := by
  obtain ⟨hi, _, hpp⟩ := (L.at_iff _ _).1 ha
  have hpe : (fr i).page = page := by omega
  have hno : ∀ j, j < n → j ≠ i → (fr j).page ≠ page := by
    intro j hj hne e
    exact hne (L.one hj hi (by simp) (by simp) (by rw [e, hpe]))
  refine { hn := L.hn, hm0 := L.hm0, hm1 := L.hm1, hand := L.hand, at_iff := ?_, page := ?_, len := ?_, bas := ?_, clean := ?_, free := ?_, out := ?_, pins := ?_, flen := L.flen, cnt := ?_ }
  · intro k j
    by_cases ej : j = i
    · subst ej; rw [upd_same, h1]; exact L.at_iff k j
    · rw [upd_other _ _ ej]; exact L.at_iff k j
  · intro j hj hl'
    by_cases ej : j = i
    · subst ej; rw [upd_same, h1]; exact L.page j hj hl'
    · rw [upd_other _ _ ej]; exact L.page j hj hl'
  · intro j hj hl'
    by_cases ej : j = i
    · subst ej; rw [upd_same, h2]; exact hl
    · rw [upd_other _ _ ej]; exact L.len j hj hl'
  · intro j hj hl'
    by_cases ej : j = i
    · subst ej; rw [upd_same, h1, h2, hpe, upd_same]
    · rw [upd_other _ _ ej, upd_other _ _ (hno j hj ej)]; exact L.bas j hj hl'
  · intro j hj hl'
    by_cases ej : j = i
    · subst ej; rw [upd_same, h3]; intro h; cases h
    · rw [upd_other _ _ ej]; exact L.clean j hj hl'
  · intro j hj; cases hj
  · intro q hq hat
    have e : q ≠ page := by rintro rfl; rw [ha] at hat; cases hat
    rw [upd_other _ _ e]; exact L.out q hq hat
  · intro j hj
    by_cases ej : j = i
    · subst ej; rw [upd_same, h4]; exact L.pins j hj
    · rw [upd_other _ _ ej]; exact L.pins j hj
  · have h := chg_one (fr := fr) (fr' := upd fr i x) (i := i) (fun j hj => by rw [upd_other _ _ hj]) n
    have := L.cnt
    omega

end Go.Proofs.Ytiolpfneppchnaa

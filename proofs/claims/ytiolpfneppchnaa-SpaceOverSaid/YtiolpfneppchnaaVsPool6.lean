/- The pool (layer 4): its state as a base of pages; room said so. -/
import Derived.Test.YtiolpfneppchnaaVsPool5
import Derived.Test.YtiolpfneppchnaaVsPages
namespace Go.Proofs.Ytiolpfneppchnaa
open Go Go.RowKit Go.Vs

/-- how many frames are changed. -/
def chg (fr : Nat → Fr) : Nat → Nat
  | 0 => 0
  | n + 1 => chg fr n + (if (fr n).changed then 1 else 0)

theorem chg_le (fr : Nat → Fr) : ∀ n, chg fr n ≤ n
  | 0 => Nat.le_refl _
  | n + 1 => by have := chg_le fr n; unfold chg; split <;> omega

theorem chg_congr {fr fr' : Nat → Fr} : ∀ n, (∀ j, j < n → (fr' j).changed = (fr j).changed) → chg fr' n = chg fr n
  | 0, _ => rfl
  | n + 1, h => by unfold chg; rw [chg_congr n (fun j hj => h j (by omega)), h n (by omega)]

theorem chg_drop {fr fr' : Nat → Fr} {i : Nat} (hi : (fr i).changed = true) (hf : (fr' i).changed = false) (ho : ∀ j, j ≠ i → (fr' j).changed = (fr j).changed) : ∀ n, i < n → chg fr' n + 1 = chg fr n
  | 0, h => by omega
  | n + 1, h => by
    unfold chg
    by_cases e : n = i
    · subst e
      rw [chg_congr n (fun j hj => ho j (by omega)), hi, hf]
      simp
    · have := chg_drop hi hf ho n (by omega)
      rw [ho n e]
      omega

theorem chg_one {fr fr' : Nat → Fr} {i : Nat} (ho : ∀ j, j ≠ i → (fr' j).changed = (fr j).changed) : ∀ n, chg fr' n ≤ chg fr n + 1
  | 0 => by simp [chg]
  | n + 1 => by
    unfold chg
    by_cases e : n = i
    · subst e
      rw [chg_congr n (fun j hj => ho j (by omega))]
      split <;> split <;> omega
    · have := chg_one ho n
      rw [ho n e]
      omega

/-- What frames say of pages. 'loose': a frame that holds no page yet; 'pin': the one that is pinned. -/
structure PoolL (n most hand : Nat) (fr : Nat → Fr) (at' : Int → Option Nat) (base : Nat → Bs) (f1 : Bs) (N nr : Nat) (loose pin : Option Nat) : Prop where
  hn : n ≤ most
  hm0 : 1 ≤ most
  hm1 : most ≤ 1024
  hand : hand < n ∨ (n = 0 ∧ hand = 0)
  at_iff : ∀ k i, at' k = some i ↔ i < n ∧ some i ≠ loose ∧ ((fr i).page : Int) = k
  page : ∀ i, i < n → some i ≠ loose → (fr i).page < 4096
  len : ∀ i, i < n → some i ≠ loose → (fr i).bytes.length = 512
  bas : ∀ i, i < n → some i ≠ loose → base (fr i).page = (fr i).bytes
  clean : ∀ i, i < n → some i ≠ loose → (fr i).changed = false → (fr i).bytes = pg f1 (fr i).page
  free : ∀ i, some i = loose → (fr i).changed = false
  out : ∀ q : Nat, q < 4096 → at' q = none → base q = pg f1 q
  pins : ∀ i, i < n → (fr i).pins = if some i = pin then 1 else 0
  flen : f1.length ≤ 2097152
  cnt : nr + chg fr n ≤ N

/-- pages of the disk were written as the pool has them. -/
def Wrote (f f' : Nat → Bs) (base : Nat → Bs) : Prop := f' 0 = f 0 ∧ ∀ q, q < 4096 → pg (f' 1) q = pg (f 1) q ∨ pg (f' 1) q = base q

theorem Wrote.refl (f base) : Wrote f f base := ⟨rfl, fun _ _ => .inl rfl⟩
theorem Wrote.trans {f g h base} (a : Wrote f g base) (b : Wrote g h base) : Wrote f h base :=
  ⟨b.1.trans a.1, fun q hq => by
    rcases b.2 q hq with h | h
    · rw [h]; exact a.2 q hq
    · exact .inr h⟩

/-- two frames that hold one page are one. -/
theorem PoolL.one {n most hand : Nat} {fr : Nat → Fr} {at' : Int → Option Nat} {base : Nat → Bs} {f1 : Bs} {N nr : Nat} {loose pin : Option Nat} (L : PoolL n most hand fr at' base f1 N nr loose pin)
    {i j : Nat} (hi : i < n) (hj : j < n) (h1 : some i ≠ loose) (h2 : some j ≠ loose) (h : (fr i).page = (fr j).page) : i = j := by
  have a := (L.at_iff _ i).2 ⟨hi, h1, rfl⟩
  have b := (L.at_iff _ j).2 ⟨hj, h2, rfl⟩
  rw [h, b] at a
  exact (Option.some.inj a).symm

/-- a new frame is at hand. -/
theorem PoolL.new {n most hand : Nat} {fr : Nat → Fr} {at' : Int → Option Nat} {base : Nat → Bs} {f1 : Bs} {N nr : Nat} (L : PoolL n most hand fr at' base f1 N nr none none) (hn : n < most) (b : Nat) :
    PoolL (n + 1) most hand (upd fr n (newFr b)) at' base f1 N nr (some n) none := by
  have o : ∀ i, i < n + 1 → some i ≠ some n → i < n ∧ upd fr n (newFr b) i = fr i := by
    intro i hi hne
    have : i ≠ n := fun e => hne (by rw [e])
    exact ⟨by omega, upd_other _ _ this⟩
  refine { hn := hn, hm0 := L.hm0, hm1 := L.hm1, hand := ?_, at_iff := ?_, page := ?_, len := ?_, bas := ?_, clean := ?_, free := ?_, out := L.out, pins := ?_, flen := L.flen, cnt := ?_ }
  · rcases L.hand with h | ⟨h1, h2⟩
    · exact .inl (by omega)
    · exact .inl (by omega)
  · intro k i
    rw [L.at_iff]
    constructor
    · rintro ⟨h1, _, h3⟩
      refine ⟨by omega, fun e => by cases e; omega, ?_⟩
      rw [upd_other _ _ (by omega)]; exact h3
    · rintro ⟨h1, h2, h3⟩
      obtain ⟨h4, h5⟩ := o i h1 h2
      rw [h5] at h3
      exact ⟨h4, by simp, h3⟩
  · intro i hi hne; obtain ⟨h4, h5⟩ := o i hi hne; rw [h5]; exact L.page i h4 (by simp)
  · intro i hi hne; obtain ⟨h4, h5⟩ := o i hi hne; rw [h5]; exact L.len i h4 (by simp)
  · intro i hi hne; obtain ⟨h4, h5⟩ := o i hi hne; rw [h5]; exact L.bas i h4 (by simp)
  · intro i hi hne; obtain ⟨h4, h5⟩ := o i hi hne; rw [h5]; exact L.clean i h4 (by simp)
  · intro i hi; cases hi; rw [upd_same]; rfl
  · intro i hi
    by_cases e : i = n
    · subst e; rw [upd_same]; simp [newFr]
    · rw [upd_other _ _ e]; exact L.pins i (by omega)
  · have h : chg (upd fr n (newFr b)) (n + 1) = chg fr n := by
      show chg (upd fr n (newFr b)) n + (if (upd fr n (newFr b) n).changed then 1 else 0) = chg fr n
      rw [upd_same, chg_congr (fr := fr) n (fun j hj => by rw [upd_other _ _ (by omega)])]
      simp [newFr]
    rw [h]; exact L.cnt

/-- a victim's frame is at hand. -/
theorem PoolL.old {n hand hand' : Nat} {fr fr' : Nat → Fr} {at' : Int → Option Nat} {base : Nat → Bs} {f f' : Nat → Bs} {N nr nr' : Nat} (L : PoolL n n hand fr at' base (f 1) N nr none none) {i : Nat} (hi : i < n) (hh : hand' < n) (hl : Let fr fr' i) (hw : DidWrite f f' nr nr' (fr i)) :
    PoolL n n hand' fr' (mupd at' (fr i).page none) base (f' 1) N nr' (some i) none ∧ Wrote f f' base := by
  have hp : ∀ j, (fr' j).page = (fr j).page ∧ (fr' j).bytes = (fr j).bytes ∧ (fr' j).pins = (fr j).pins := by
    intro j; obtain ⟨b, hb⟩ := hl j; rw [hb]; exact ⟨rfl, rfl, rfl⟩
  have hc : ∀ j, j ≠ i → (fr' j).changed = (fr j).changed := by
    intro j hj; obtain ⟨b, hb⟩ := hl j; rw [hb]; simp [hj]
  have hci : (fr' i).changed = false := by obtain ⟨b, hb⟩ := hl i; rw [hb]; simp
  have hli := L.len i hi (by simp)
  have hbi := L.bas i hi (by simp)
  have hpi := L.page i hi (by simp)
  have hpg : ∀ q, q ≠ (fr i).page → pg (f' 1) q = pg (f 1) q := by
    intro q hq
    rcases hw with ⟨_, rfl, _⟩ | ⟨_, rfl, _⟩
    · rw [upd_same, pg_wr_other _ _ _ _ hli hq]
    · rfl
  have hpgi : pg (f' 1) (fr i).page = base (fr i).page := by
    rcases hw with ⟨_, rfl, _⟩ | ⟨h, rfl, _⟩
    · rw [upd_same, pg_wr_same _ _ _ hli, hbi]
    · rw [hbi]; exact (L.clean i hi (by simp) h).symm
  have hflen : (f' 1).length ≤ 2097152 := by
    have := L.flen
    rcases hw with ⟨_, rfl, _⟩ | ⟨_, rfl, _⟩
    · rw [upd_same, wr_length]; omega
    · exact this
  have hcnt : nr' + chg fr' n ≤ N := by
    have := L.cnt
    rcases hw with ⟨h, _, rfl⟩ | ⟨h, _, rfl⟩
    · have := chg_drop h hci hc n hi; omega
    · rw [chg_congr (fr := fr) n (fun j _ => by
        by_cases e : j = i
        · rw [e, hci, h]
        · exact hc j e)]
      exact this
  have hone : ∀ j, j < n → some j ≠ some i → (fr j).page ≠ (fr i).page := fun j hj hne e => hne (by rw [L.one hj hi (by simp) (by simp) e])
  refine ⟨{ hn := Nat.le_refl _, hm0 := L.hm0, hm1 := L.hm1, hand := .inl hh, at_iff := ?_, page := ?_, len := ?_, bas := ?_, clean := ?_, free := ?_, out := ?_, pins := ?_, flen := hflen, cnt := hcnt }, ?_, ?_⟩
  · intro k j
    rw [(hp j).1]
    by_cases e : k = (fr i).page
    · subst e
      rw [mupd_same]
      constructor
      · intro h; cases h
      · rintro ⟨h1, h2, h3⟩
        exact absurd (by omega) (hone j h1 h2)
    · rw [mupd_other _ _ e, L.at_iff]
      constructor
      · rintro ⟨h1, _, h3⟩; exact ⟨h1, fun he => by cases he; exact e h3.symm, h3⟩
      · rintro ⟨h1, _, h3⟩; exact ⟨h1, by simp, h3⟩
  · intro j hj _; rw [(hp j).1]; exact L.page j hj (by simp)
  · intro j hj _; rw [(hp j).2.1]; exact L.len j hj (by simp)
  · intro j hj _; rw [(hp j).1, (hp j).2.1]; exact L.bas j hj (by simp)
  · intro j hj hne hcc
    have hji : j ≠ i := fun e => hne (by rw [e])
    rw [hc j hji] at hcc
    rw [(hp j).1, (hp j).2.1, hpg _ (hone j hj hne)]
    exact L.clean j hj (by simp) hcc
  · intro j hj; cases hj; exact hci
  · intro q hq hat
    by_cases e : q = (fr i).page
    · subst e; exact hpgi.symm
    · rw [mupd_other _ _ (by omega)] at hat
      rw [hpg q e]; exact L.out q hq hat
  · intro j hj; rw [(hp j).2.2]; exact L.pins j hj
  · rcases hw with ⟨_, rfl, _⟩ | ⟨_, rfl, _⟩
    · rw [upd_other _ _ (by omega)]
    · rfl
  · intro q hq
    by_cases e : q = (fr i).page
    · subst e; exact .inr hpgi
    · exact .inl (hpg q e)

theorem pool_room (p d n most hand : Nat) (fr : Nat → Fr) (at' : Int → Option Nat) (base : Nat → Bs) (w : World) (T : Tags) (f : Nat → Bs) (N nr : Nat) (hf : Fresh w T) (h : PoolM w T p d most n hand fr at') (hd : DiskR w T d f nr) (L : PoolL n most hand fr at' base (f 1) N nr none none) (hN : N < 1099511627770) :
    Calls Try.prog 94 #[ptr p] w fun e w' => ∃ i n' hand' fr' at1 f' nr' T', e = .returned (ptr (fr' i).blk) ∧ i < n' ∧ (∀ k, at' k = none → at1 k = none) ∧
      PoolM w' T' p d most n' hand' fr' at1 ∧ DiskR w' T' d f' nr' ∧ PoolL n' most hand' fr' at1 base (f' 1) N nr' (some i) none ∧ Wrote f f' base ∧ Step isPool w T w' T' := by
  by_cases hn : n < most
  · refine (pool_room_new p d most n hand fr at' w T hf h hn L.hm1 (fun k i hk => ((L.at_iff k i).1 hk).1)).mono ?_
    rintro e w' ⟨rfl, T', hM, hS⟩
    refine ⟨n, n + 1, hand, upd fr n (newFr w.heap.size), at', f, nr, T', by rw [upd_same]; rfl, by omega, fun _ h => h, hM, hd.kept hS (fun t ht => by cases t <;> first | rfl | cases ht), L.new hn _, Wrote.refl _ _, hS.mono (fun t ht => by unfold isPool; rw [ht]; rfl)⟩
  · have := L.hn; have := L.hm0
    obtain rfl : n = most := by omega
    have hh : hand < n := by rcases L.hand with h | ⟨h, _⟩ <;> omega
    refine (pool_room_old p d n hand fr at' w T f nr hf h hd (by omega) L.hm1 hh (fun i hi => by rw [L.pins i hi]; rfl) (fun i hi => L.len i hi (by simp)) (fun i hi => L.page i hi (by simp)) (by have := L.cnt; omega)).mono ?_
    rintro e w' ⟨i, hand', fr', f', nr', T', rfl, hi, hh', hl, hw, hM, hD, hS⟩
    obtain ⟨L', W'⟩ := L.old hi hh' hl hw
    refine ⟨i, n, hand', fr', _, f', nr', T', rfl, hi, fun k hk => ?_, hM, hD, L', W', hS⟩
    by_cases e : k = (fr i).page
    · subst e; exact mupd_same _ _ _
    · rw [mupd_other _ _ e]; exact hk

end Go.Proofs.Ytiolpfneppchnaa

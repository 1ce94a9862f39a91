/- The space (layer 5): what its blocks hold; bytes. -/
import Derived.Test.YtiolpfneppchnaaVsPool13
import Derived.Test.YtiolpfneppchnaaVsLog2
namespace Go.Proofs.Ytiolpfneppchnaa
open Go Go.RowKit Go.Vs

/-! ### Records as pages that were written -/
abbrev Ent := Nat × Bs
def encE (es : List Ent) : Bs := es.flatMap fun x => be4 x.1 ++ x.2
def layE (es : List Ent) (g : Nat → Bs) : Nat → Bs := es.foldl (fun g x => upd g x.1 x.2) g

theorem layE_cons (x : Ent) (es : List Ent) (g : Nat → Bs) : layE (x :: es) g = layE es (upd g x.1 x.2) := rfl
theorem layE_append (a b : List Ent) (g : Nat → Bs) : layE (a ++ b) g = layE b (layE a g) := by simp [layE]

/-- a page that some entry is of stands as the last one says: whatever was there; the others as they stood. -/
theorem layE_at : ∀ (es : List Ent) (q : Nat), (∀ g h : Nat → Bs, layE es g q = layE es h q) ∨ ∀ g : Nat → Bs, layE es g q = g q
  | [], q => .inr fun _ => rfl
  | x :: es, q => by
    rcases layE_at es q with h | h
    · exact .inl fun g k => h _ _
    · by_cases e : q = x.1
      · subst e
        exact .inl fun g k => by rw [layE_cons, layE_cons, h, h, upd_same, upd_same]
      · exact .inr fun g => by rw [layE_cons, h, upd_other _ _ e]

/-- what finished actions left: pages, and the records of the log. -/
structure Kept where
  base : Nat → Bs
  recs : List (List Ent)

def RecOk (r : List Ent) : Prop := r ≠ [] ∧ (encE r).length ≤ 1048576 ∧ ∀ x ∈ r, x.1 < 4096 ∧ x.2.length = 512

/-- the disk bears it. -/
def J (f : Nat → Bs) (K : Kept) : Prop :=
  f 0 = encR (K.recs.map encE) ∧ (∀ r ∈ K.recs, RecOk r) ∧ ∀ q, q < 4096 → layE K.recs.flatten (pg (f 1)) q = K.base q

theorem J.wrote {f f' : Nat → Bs} {K : Kept} (h : J f K) (hw : Wrote f f' K.base) : J f' K := by
  obtain ⟨h1, h2, h3⟩ := h
  refine ⟨hw.1.trans h1, h2, fun q hq => ?_⟩
  rcases layE_at K.recs.flatten q with h | h
  · rw [h _ (pg (f 1))]; exact h3 q hq
  · have h4 := h3 q hq
    rw [h] at h4 ⊢
    rcases hw.2 q hq with e | e
    · rw [e]; exact h4
    · exact e

/-! ### Blocks -/
def setV (free : Int → Bool) : Int → Option Value := fun k => if free k then some (.bool true) else none

def FreeM (w : World) (T : Tags) (m : Nat) (free : Int → Bool) : Prop := T m = .free ∧ IMap w m (setV free)

def SpaceM (w : World) (T : Tags) (s l p m : Nat) (now : Value) : Prop :=
  T s = .space ∧ w.heap[s]? = some (.cells #[ptr l, ptr p, now, .map (some m)] 57 (0, 0))

/-- a space: its log, its pool, what is committed. -/
structure SpaceI (w : World) (T : Tags) (s l p d m : Nat) (now : Value) (f : Nat → Bs) (K : Kept) (free : Int → Bool) (N : Nat) : Prop where
  sp : SpaceM w T s l p m now
  fr : FreeM w T m free
  lg : LogR w T l d (f 0).length K.recs.length
  pl : PoolR w T p d K.base f N
  jj : J f K

def isSpR : Tag → Bool
  | .space | .free | .log => true
  | t => isPool t

theorem FreeM.kept {C : Tag → Bool} {w w' : World} {T T' : Tags} {m : Nat} {free : Int → Bool} (h : FreeM w T m free) (hs : Step C w T w' T') (hc : C .free = false) : FreeM w' T' m free :=
  ⟨hs.tagOf h.2.lt h.1, h.2.keptStep h.1 hs hc⟩

theorem SpaceM.kept {C : Tag → Bool} {w w' : World} {T T' : Tags} {s l p m : Nat} {now : Value} (h : SpaceM w T s l p m now) (hs : Step C w T w' T') (hc : C .space = false) : SpaceM w' T' s l p m now :=
  ⟨hs.tag h.2 h.1, hs.at h.2 (by rw [h.1]; exact hc)⟩

theorem SpaceM.c0 {w : World} {T : Tags} {s l p m : Nat} {now : Value} (h : SpaceM w T s l p m now) : w.cell? ⟨s, 0, none⟩ = some (ptr l) := by rw [cell_at h.2]; rfl
theorem SpaceM.c1 {w : World} {T : Tags} {s l p m : Nat} {now : Value} (h : SpaceM w T s l p m now) : w.cell? ⟨s, 1, none⟩ = some (ptr p) := by rw [cell_at h.2]; rfl
theorem SpaceM.c2 {w : World} {T : Tags} {s l p m : Nat} {now : Value} (h : SpaceM w T s l p m now) : w.cell? ⟨s, 2, none⟩ = some now := by rw [cell_at h.2]; rfl
theorem SpaceM.c3 {w : World} {T : Tags} {s l p m : Nat} {now : Value} (h : SpaceM w T s l p m now) : w.cell? ⟨s, 3, none⟩ = some (.map (some m)) := by rw [cell_at h.2]; rfl
theorem SpaceM.z {w : World} {T : Tags} {s l p m : Nat} {now : Value} (h : SpaceM w T s l p m now) (o : Nat) : w.frozen? ⟨s, o, none⟩ = false := froz_at h.2

/-- where the pool alone has turned, and what is none of a space's. -/
theorem SpaceI.pool {w w' : World} {T T' : Tags} {s l p d m : Nat} {now : Value} {f f' : Nat → Bs} {K : Kept} {free : Int → Bool} {N : Nat} (h : SpaceI w T s l p d m now f K free N)
    {C : Tag → Bool} (hs : Step C w T w' T') (h1 : C .space = false) (h2 : C .free = false) (h3 : C .log = false) (hp : PoolR w' T' p d K.base f' N) (hw : Wrote f f' K.base) : SpaceI w' T' s l p d m now f' K free N where
  sp := h.sp.kept hs h1
  fr := h.fr.kept hs h2
  lg := by have := h.lg.kept hs h3; rw [hw.1]; exact this
  pl := hp
  jj := h.jj.wrote hw

theorem PoolR.kept {C : Tag → Bool} {w w' : World} {T T' : Tags} {p d N : Nat} {base : Nat → Bs} {f : Nat → Bs} (h : PoolR w T p d base f N) (hs : Step C w T w' T') (hc : ∀ t, isPool t = true → C t = false) : PoolR w' T' p d base f N := by
  obtain ⟨n, most, hand, fr, at', nr, hM, hD, hL⟩ := h
  exact ⟨n, most, hand, fr, at', nr, hM.kept hs (fun t ht => hc t (by unfold isPool; rw [ht]; rfl)), hD.kept hs (fun t ht => hc t (by unfold isPool; rw [ht]; cases isPoolM t <;> rfl)), hL⟩

/-- where nothing of it has turned. -/
theorem SpaceI.kept {C : Tag → Bool} {w w' : World} {T T' : Tags} {s l p d m : Nat} {now : Value} {f : Nat → Bs} {K : Kept} {free : Int → Bool} {N : Nat} (h : SpaceI w T s l p d m now f K free N)
    (hs : Step C w T w' T') (hc : ∀ t, isSpR t = true → C t = false) : SpaceI w' T' s l p d m now f K free N where
  sp := h.sp.kept hs (hc _ rfl)
  fr := h.fr.kept hs (hc _ rfl)
  lg := h.lg.kept hs (hc _ rfl)
  pl := h.pl.kept hs (fun t ht => hc t (by cases t <;> first | rfl | exact ht))
  jj := h.jj

/-- what reading a page turns: the pool; and a block is laid for its bytes. -/
def isPoolB (q : Nat) (t : Tag) : Bool := isPool t || t == .abytes q

set_option maxRecDepth 100000 in
set_option maxHeartbeats 800000 in
theorem space_bytes (s p d page : Nat) (base : Nat → Bs) (w : World) (T : Tags) (f : Nat → Bs) (N : Nat) (hf : Fresh w T) (hT : T s = .space) (c1 : w.cell? ⟨s, 1, none⟩ = some (ptr p)) (hp : PoolR w T p d base f N) (hq : page < 4096) (hN : N < 1099511627770) :
    Calls Try.prog 39 #[ptr s, .int .i64 page] w fun e w' => ∃ g cap T' f', e = .returned (.slice (some ⟨g, 0, none⟩) 512 cap) ∧ BlkB w' 5 g cap (base page) ∧ (base page).length = 512 ∧ T' g = .abytes page ∧ w.heap.size ≤ g ∧
      PoolR w' T' p d base f' N ∧ Wrote f f' base ∧ Step (isPoolB page) w T w' T' := by
  have hsl := World.block_lt_of_cell? w _ c1
  have HP := Lib.hid hp
  clear hp
  have hcell : ∀ {w' : World} {T' : Tags}, Step isPool w T w' T' → w'.cell? ⟨s, 1, none⟩ = some (ptr p) := by
    intro w' T' h
    have e := h.same s hsl (by rw [hT]; rfl)
    simp only [World.cell?, e] at c1 ⊢
    exact c1
  go_enter Try.func39, Try.ntmps39
  go_wp2_with fail
  refine (pool_pin p d page base w T f N hf HP.out hq hN).mono ?_
  rintro e1 w1 ⟨rfl, T1, f1, hP1, hW1, hS1⟩
  have k1 := hcell hS1
  have HP1 := Lib.hid hP1; have HS1 := Lib.hid hS1
  clear hP1 hS1
  go_wp2_with fail
  refine (pool_read p d page base w1 T1 f1 N HP1.out).mono ?_
  rintro e2 w2 ⟨rfl, rfl, hlen⟩
  obtain ⟨sv, hsv⟩ : ∃ sv : ByteArray, str (base page) = .string sv := ⟨_, rfl⟩
  have hsd : sv.data.toList = base page := by
    have : sv = ⟨(base page).toArray⟩ := by unfold str at hsv; injection hsv with h; exact h.symm
    rw [this]
  have hss : sv.size = 512 := by rw [← hlen, ← hsd]; rfl
  rw [hsv]
  have HSD := Lib.hid hsd; have HLN := Lib.hid hlen
  clear hsv hsd hlen
  go_wp2_with fail
  refine (pool_unpin p d page base w1 T1 f1 N HS1.out.fresh HP1.out).mono ?_
  rintro e3 w3 ⟨rfl, hP3, hS3⟩
  have hS4 := HS1.out.trans hS3
  have HP3 := Lib.hid hP3; have HS4 := Lib.hid hS4
  clear hP3 hS4 hS3 k1
  go_wp2_with (with_reducible refine hold_convert 9 69 _ rfl ?_)
  unfold Hold
  refine wpList_bytes rfl _ _ _ rfl _ und_string und_bytes und_u8 rfl (by rw [hss]; unfold maxLen; omega) ?_
  intro cap w4 hB hg4 hz4
  rw [HSD.out] at hB
  rw [hss]
  have b4 : Below w3.heap.size w3 w4 := (Below.refl _ _).grown hg4 (Nat.le_refl _) (by simp)
  have s4 : Step (fun t => t == .abytes page) w3 T1 w4 (T1.put w3.heap.size (.abytes page)) := ((Step.refl HS4.out.fresh).below b4).retag (Nat.le_refl _) (by rw [hz4]; omega) (by simp)
  have HB := Lib.hid hB; have HS := Lib.hid s4
  clear hB hg4 hz4 b4 s4
  go_wp2
  go_ret
  exact ⟨_, cap, T1.put w3.heap.size (.abytes page), f1, rfl, HB.out, HLN.out, Tags.put_same _ _ _, HS4.out.size, HP3.out.kept HS.out (fun t ht => by cases t <;> first | rfl | cases ht), hW1, (HS4.out.mono (fun t ht => by unfold isPoolB; rw [ht]; rfl)).trans (HS.out.mono (fun t ht => by unfold isPoolB; rw [ht]; cases isPool t <;> rfl))⟩

end Go.Proofs.Ytiolpfneppchnaa

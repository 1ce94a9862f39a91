/- The space (layer 5): actions: what their blocks hold; going, page, put, total. -/
import Derived.Test.YtiolpfneppchnaaVsSp
namespace Go.Proofs.Ytiolpfneppchnaa
open Go Go.RowKit Go.Vs

/-- the pages that an action has changed: where their bytes lie. -/
def pagesV (pv : Int → Option (Nat × Nat)) : Int → Option Value := fun k => (pv k).map fun x => .slice (some ⟨x.1, 0, none⟩) 512 x.2

def PagesM (w : World) (T : Tags) (m : Nat) (base cur : Nat → Bs) (pv : Int → Option (Nat × Nat)) : Prop :=
  T m = .apages ∧ IMap w m (pagesV pv) ∧ (∀ k x, pv k = some x → ∃ q : Nat, k = q ∧ q < 4096 ∧ T x.1 = .abytes q ∧ BlkB w 5 x.1 x.2 (cur q)) ∧
    (∀ q : Nat, q < 4096 → pv q = none → cur q = base q) ∧ ∀ q, q < 4096 → (cur q).length = 512

def ActM (w : World) (T : Tags) (a s pm gm : Nat) (over : Bool) : Prop :=
  T a = .act ∧ w.heap[a]? = some (.cells #[ptr s, .map (some pm), .map (some gm), .bool over] 47 (0, 0))

/-- an action that goes on. -/
structure ActI (w : World) (T : Tags) (a s l p d m pm gm : Nat) (f : Nat → Bs) (K : Kept) (free : Int → Bool) (N : Nat) (cur : Nat → Bs) (gone : Int → Bool) (pv : Int → Option (Nat × Nat)) : Prop where
  sp : SpaceI w T s l p d m (ptr a) f K free N
  ac : ActM w T a s pm gm false
  pg : PagesM w T pm K.base cur pv
  go : FreeM w T gm gone
  ne : gm ≠ m

def isAct : Tag → Bool
  | .apages | .free | .abytes _ => true
  | t => isPool t

/-- all blocks of a space and its action. -/
def isAll : Tag → Bool
  | .act | .apages | .abytes _ => true
  | t => isSpR t

theorem isAll_of : ∀ t, isSpR t = true → isAll t = true := by
  intro t ht
  cases t <;> first | rfl | exact ht

theorem isAct_of (q : Nat) : ∀ t, isPoolB q t = true → isAct t = true := by
  intro t ht
  cases t <;> first | rfl | (exfalso; revert ht; simp [isPoolB, isPool, isPoolM, isDisk])

/-- kept where blocks of pages that it has not changed turn. -/
theorem PagesM.kept' {C : Tag → Bool} {w w' : World} {T T' : Tags} {m : Nat} {base cur : Nat → Bs} {pv : Int → Option (Nat × Nat)} (h : PagesM w T m base cur pv) (hs : Step C w T w' T') (h1 : C .apages = false) (h2 : ∀ q : Nat, pv q ≠ none → C (.abytes q) = false) : PagesM w' T' m base cur pv := by
  obtain ⟨a, b, c, e, g⟩ := h
  refine ⟨hs.tagOf b.lt a, b.keptStep a hs h1, fun k x hk => ?_, e, g⟩
  obtain ⟨q, q1, q2, q3, q4⟩ := c k x hk
  exact ⟨q, q1, q2, hs.tagOf q4.lt q3, q4.kept (hs.same _ q4.lt (by rw [q3]; exact h2 q (by rw [← q1, hk]; simp)))⟩

theorem PagesM.kept {C : Tag → Bool} {w w' : World} {T T' : Tags} {m : Nat} {base cur : Nat → Bs} {pv : Int → Option (Nat × Nat)} (h : PagesM w T m base cur pv) (hs : Step C w T w' T') (h1 : C .apages = false) (h2 : ∀ q, C (.abytes q) = false) : PagesM w' T' m base cur pv := by
  obtain ⟨a, b, c, e, g⟩ := h
  refine ⟨hs.tagOf b.lt a, b.keptStep a hs h1, fun k x hk => ?_, e, g⟩
  obtain ⟨q, q1, q2, q3, q4⟩ := c k x hk
  exact ⟨q, q1, q2, hs.tagOf q4.lt q3, q4.kept (hs.same _ q4.lt (by rw [q3]; exact h2 q))⟩

theorem ActM.kept {C : Tag → Bool} {w w' : World} {T T' : Tags} {a s pm gm : Nat} {over : Bool} (h : ActM w T a s pm gm over) (hs : Step C w T w' T') (hc : C .act = false) : ActM w' T' a s pm gm over :=
  ⟨hs.tag h.2 h.1, hs.at h.2 (by rw [h.1]; exact hc)⟩

theorem ActM.c0 {w : World} {T : Tags} {a s pm gm : Nat} {over : Bool} (h : ActM w T a s pm gm over) : w.cell? ⟨a, 0, none⟩ = some (ptr s) := by rw [cell_at h.2]; rfl
theorem ActM.c1 {w : World} {T : Tags} {a s pm gm : Nat} {over : Bool} (h : ActM w T a s pm gm over) : w.cell? ⟨a, 1, none⟩ = some (.map (some pm)) := by rw [cell_at h.2]; rfl
theorem ActM.c2 {w : World} {T : Tags} {a s pm gm : Nat} {over : Bool} (h : ActM w T a s pm gm over) : w.cell? ⟨a, 2, none⟩ = some (.map (some gm)) := by rw [cell_at h.2]; rfl
theorem ActM.c3 {w : World} {T : Tags} {a s pm gm : Nat} {over : Bool} (h : ActM w T a s pm gm over) : w.cell? ⟨a, 3, none⟩ = some (.bool over) := by rw [cell_at h.2]; rfl
theorem ActM.z {w : World} {T : Tags} {a s pm gm : Nat} {over : Bool} (h : ActM w T a s pm gm over) (o : Nat) : w.frozen? ⟨a, o, none⟩ = false := froz_at h.2

section
variable {w w' : World} {T T' : Tags} {a s l p d m pm gm : Nat} {f f' : Nat → Bs} {K : Kept} {free : Int → Bool} {N : Nat} {cur : Nat → Bs} {gone : Int → Bool} {pv : Int → Option (Nat × Nat)}

/-- where the pool alone has turned, and bytes were laid of a page that was not changed. -/
theorem ActI.pool (h : ActI w T a s l p d m pm gm f K free N cur gone pv) {q : Nat} (hq : pv q = none) (hs : Step (isPoolB q) w T w' T') (hp : PoolR w' T' p d K.base f' N) (hw : Wrote f f' K.base) : ActI w' T' a s l p d m pm gm f' K free N cur gone pv where
  sp := h.sp.pool hs rfl rfl rfl hp hw
  ac := h.ac.kept hs rfl
  pg := h.pg.kept' hs rfl (fun r hr => by
    unfold isPoolB
    have : Tag.abytes r ≠ Tag.abytes q := by intro e; injection e with e; subst e; exact hr hq
    simp [this, isPool, isPoolM, isDisk])
  go := h.go.kept hs rfl
  ne := h.ne

theorem ActI.kept {C : Tag → Bool} (h : ActI w T a s l p d m pm gm f K free N cur gone pv) (hs : Step C w T w' T') (hc : ∀ t, isAll t = true → C t = false) : ActI w' T' a s l p d m pm gm f K free N cur gone pv where
  sp := h.sp.kept hs (fun t ht => hc t (isAll_of t ht))
  ac := h.ac.kept hs (hc _ rfl)
  pg := h.pg.kept hs (hc _ rfl) (fun _ => hc _ rfl)
  go := h.go.kept hs (hc _ rfl)
  ne := h.ne
end

theorem und_amap : Try.prog.underlying 44 = some (.map 3 69) := by kernel_rfl
theorem und_bmap : Try.prog.underlying 45 = some (.map 3 4) := by kernel_rfl
theorem info_bytes : (Try.prog.info? 69).map (fun i => (i.zero, i.size, i.bytes)) = some (some (.slice none 0 0), 1, 24) := by kernel_rfl
theorem info_bool : (Try.prog.info? 4).map (fun i => (i.zero, i.size, i.bytes)) = some (some (.bool false), 1, 1) := by kernel_rfl

theorem act_going (a s : Nat) (over : Bool) (w : World) (c0 : w.cell? ⟨a, 0, none⟩ = some (ptr s)) (c3 : w.cell? ⟨a, 3, none⟩ = some (.bool over)) :
    Calls Try.prog 42 #[ptr a] w fun e w' => e = .returned (.int .i64 (if over then 5 else 0)) ∧ w = w' := by
  cases over
  all_goals
    go_enter Try.func42, Try.ntmps42
    go_wp2
    go_ret
    exact ⟨rfl, rfl⟩

set_option maxRecDepth 100000 in
set_option maxHeartbeats 800000 in
theorem act_page (a s l p d m pm gm q : Nat) (f : Nat → Bs) (K : Kept) (free : Int → Bool) (N : Nat) (cur : Nat → Bs) (gone : Int → Bool) (pv : Int → Option (Nat × Nat)) (w : World) (T : Tags) (hf : Fresh w T) (h : ActI w T a s l p d m pm gm f K free N cur gone pv) (hq : q < 4096) (hN : N < 1099511627770) :
    Calls Try.prog 43 #[ptr a, .int .i64 q] w fun e w' => ∃ g cap, e = .returned (.slice (some ⟨g, 0, none⟩) 512 cap) ∧ BlkB w' 5 g cap (cur q) ∧ ∃ T', T' g = .abytes q ∧ (∃ f', ActI w' T' a s l p d m pm gm f' K free N cur gone pv) ∧ Step isAct w T w' T' := by
  obtain ⟨i0, hi0, hz0, hz1, hz2⟩ := info_parts info_bytes
  have c1 := h.ac.c1
  have hl := run_lookup (P := Try.prog) (w := w) 44 3 69 und_amap und_int hi0 hz0 h.pg.2.1 (q : Int) true
  rcases Option.eq_none_or_eq_some (pv q) with hv | ⟨x, hv⟩
  rotate_left
  · obtain ⟨q', e1, e2, e3, e4⟩ := h.pg.2.2.1 _ _ hv
    have e5 : q' = q := by omega
    subst e5
    simp only [pagesV, hv, Option.map_some, Option.getD_some, Option.isSome_some, if_true] at hl
    have H := Lib.hid h; have HV := Lib.hid hv; have E4 := Lib.hid e4
    have E3 := Lib.hid e3
    clear h hv e4 e3
    go_enter Try.func43, Try.ntmps43
    go_wp2_with fail
    go_ret
    exact ⟨x.1, x.2, rfl, E4.out, T, E3.out, ⟨f, H.out⟩, Step.refl hf⟩
  · simp only [pagesV, hv, Option.map_none, Option.getD_none, Option.isSome_none, if_true] at hl
    have c0 := h.ac.c0
    have hb := space_bytes s p d q K.base w T f N hf h.sp.sp.1 h.sp.sp.c1 h.sp.pl hq hN
    have hcb := h.pg.2.2.2.1 q hq hv
    rw [← hcb] at hb
    have H := Lib.hid h; have HB := Lib.hid hb; have HV := Lib.hid hv
    clear h hb hv hcb
    go_enter Try.func43, Try.ntmps43
    go_wp2_with fail
    refine HB.out.mono ?_
    rintro e1 w1 ⟨g, cap, T1, f1, rfl, hB, hlen, hTg, hge, hP, hW, hS⟩
    have HX := Lib.hid hB; have HP := Lib.hid hP; have HS := Lib.hid hS
    clear hB hP hS
    go_wp2
    go_ret
    exact ⟨g, cap, rfl, HX.out, T1, hTg, ⟨f1, H.out.pool HV.out HS.out HP.out hW⟩, HS.out.mono (isAct_of q)⟩

set_option maxRecDepth 100000 in
theorem act_total (a s l p d m pm gm : Nat) (f : Nat → Bs) (K : Kept) (free : Int → Bool) (N : Nat) (cur : Nat → Bs) (gone : Int → Bool) (pv : Int → Option (Nat × Nat)) (w : World) (T : Tags) (hf : Fresh w T) (h : ActI w T a s l p d m pm gm f K free N cur gone pv) (hN : N < 1099511627770) :
    Calls Try.prog 45 #[ptr a] w fun e w' => e = .returned (.int .i64 (num4 (cur 0))) ∧ ∃ T', (∃ f', ActI w' T' a s l p d m pm gm f' K free N cur gone pv) ∧ Step isAct w T w' T' := by
  have hlen := h.pg.2.2.2.2 0 (by omega)
  have hpg := act_page a s l p d m pm gm 0 f K free N cur gone pv w T hf h (by omega) hN
  have HP := Lib.hid hpg
  clear h hpg
  go_enter Try.func45, Try.ntmps45
  go_wp2_with fail
  refine HP.out.mono ?_
  rintro e1 w1 ⟨g, cap, rfl, hB, T1, _, ⟨f1, hA⟩, hS⟩
  have hsb := hB.slb
  rw [hlen] at hsb
  have HA := Lib.hid hA; have HS := Lib.hid hS
  clear hA hS hB
  go_wp2_with (with_reducible refine hold_slice _ _ _ _ _ rfl ?_)
  unfold Hold
  refine wpList_cut_l rfl _ _ _ rfl _ und_bytes size_u8 rfl hsb rfl (by omega) (by omega) ?_
  intro r hr _
  have e0 : (cur 0).drop (0 : Int).toNat = cur 0 := rfl
  rw [e0] at hr
  go_wp2_with (go_at_call 40; refine (number_any _ _ (by omega) _ hr).mono ?_; rintro e w' ⟨rfl, k, rfl⟩)
  go_ret
  have s1 : Step (fun _ => false) w1 T1 (w1.drewN k) T1 := (Step.refl HS.out.fresh).drewN k
  exact ⟨rfl, T1, ⟨f1, HA.out.kept s1 (fun _ _ => rfl)⟩, HS.out.trans (s1.mono (fun t ht => by cases ht))⟩

end Go.Proofs.Ytiolpfneppchnaa

/- The pool (layer 4): what its blocks hold; given, pinned. -/
import Derived.Test.YtiolpfneppchnaaVsLog
import Derived.Test.YtiolpfneppchnaaVsIter
namespace Go.Proofs.Ytiolpfneppchnaa
open Go Go.RowKit Go.Vs

abbrev ptr (b : Nat) : Value := .pointer (some ⟨b, 0, none⟩)

structure Fr where
  page : Nat
  bytes : Bs
  pins : Nat
  changed : Bool
  lately : Bool
  blk : Nat
  bv : Value

def frCells (f : Fr) : Array Value := #[.int .i64 f.page, f.bv, .int .i64 f.pins, .bool f.changed, .bool f.lately]

def FrameW (w : World) (T : Tags) (i : Nat) (f : Fr) : Prop :=
  T f.blk = .frame i ∧ w.heap[f.blk]? = some (.cells (frCells f) 134 (0, 0)) ∧ RowT w T (.fbytes i) 5 1 f.bv f.bytes.length (cells f.bytes)

def plist (fr : Nat → Fr) (n : Nat) : List Value := (List.range n).map fun i => ptr (fr i).blk

def PoolM (w : World) (T : Tags) (p d most n hand : Nat) (fr : Nat → Fr) (at' : Int → Option Nat) : Prop :=
  ∃ m lv, T p = .pool ∧ T m = .pmap ∧ w.heap[p]? = some (.cells #[ptr d, .int .i64 most, lv, .int .i64 hand, .map (some m)] 128 (0, 0)) ∧
    RowT w T .plist 132 1 lv n (plist fr n) ∧ IMap w m (fun k => (at' k).map fun i => ptr (fr i).blk) ∧ ∀ i, i < n → FrameW w T i (fr i)

def isPoolM : Tag → Bool
  | .pool | .plist | .pmap | .frame _ | .fbytes _ => true
  | _ => false

def isPool (t : Tag) : Bool := isPoolM t || isDisk t

theorem FrameW.kept {C : Tag → Bool} {w w' : World} {T T' : Tags} {i : Nat} {f : Fr} (h : FrameW w T i f) (hs : Step C w T w' T') (h1 : C (.frame i) = false) (h2 : C (.fbytes i) = false) : FrameW w' T' i f :=
  ⟨hs.tag h.2.1 h.1, hs.at h.2.1 (by rw [h.1]; exact h1), h.2.2.kept hs h2⟩

theorem _root_.Go.Vs.IMap.keptStep {C : Tag → Bool} {w w' : World} {T T' : Tags} {b : Nat} {f : Int → Option Value} {t : Tag} (h : IMap w b f) (ht : T b = t) (hs : Step C w T w' T') (hc : C t = false) : IMap w' b f :=
  h.kept (hs.same b h.lt (by rw [ht]; exact hc))

theorem _root_.Go.Vs.Step.tagOf {C : Tag → Bool} {w w' : World} {T T' : Tags} {b : Nat} {t : Tag} (hs : Step C w T w' T') (hb : b < w.heap.size) (ht : T b = t) : T' b = t := by
  rw [hs.old b hb]; exact ht

theorem PoolM.kept {C : Tag → Bool} {w w' : World} {T T' : Tags} {p d most n hand : Nat} {fr : Nat → Fr} {at' : Int → Option Nat} (h : PoolM w T p d most n hand fr at') (hs : Step C w T w' T') (hc : ∀ t, isPoolM t = true → C t = false) :
    PoolM w' T' p d most n hand fr at' := by
  obtain ⟨m, lv, h1, h2, h3, h4, h5, h6⟩ := h
  exact ⟨m, lv, hs.tag h3 h1, hs.tagOf h5.lt h2, hs.at h3 (by rw [h1]; exact hc _ rfl), h4.kept hs (hc _ rfl), h5.keptStep h2 hs (hc _ rfl), fun i hi => (h6 i hi).kept hs (hc _ rfl) (hc _ rfl)⟩

theorem PoolM.lt {w : World} {T : Tags} {p d most n hand : Nat} {fr : Nat → Fr} {at' : Int → Option Nat} (h : PoolM w T p d most n hand fr at') : p < w.heap.size := by
  obtain ⟨m, lv, _, _, h3, _⟩ := h; exact lt_of_at h3

theorem plist_upd (fr : Nat → Fr) (n i : Nat) (f : Fr) (hb : f.blk = (fr i).blk) : plist (upd fr i f) n = plist fr n := by
  unfold plist
  apply List.map_congr_left
  intro j _
  by_cases e : j = i
  · subst e; rw [upd_same, hb]
  · rw [upd_other _ _ e]

theorem pmap_upd (fr : Nat → Fr) (at' : Int → Option Nat) (i : Nat) (f : Fr) (hb : f.blk = (fr i).blk) :
    (fun k => (at' k).map fun j => ptr (upd fr i f j).blk) = fun k => (at' k).map fun j => ptr (fr j).blk := by
  funext k
  cases at' k with
  | none => rfl
  | some j =>
    simp only [Option.map_some]
    by_cases e : j = i
    · subst e; rw [upd_same, hb]
    · rw [upd_other _ _ e]

/-- a frame is written. -/
theorem PoolM.setFrame {w w' : World} {T T' : Tags} {p d most n hand : Nat} {fr : Nat → Fr} {at' : Int → Option Nat} (h : PoolM w T p d most n hand fr at') (i : Nat) (f : Fr) (hb : f.blk = (fr i).blk)
    (hs : Step (fun t => t == .frame i || t == .fbytes i) w T w' T') (hf : FrameW w' T' i f) : PoolM w' T' p d most n hand (upd fr i f) at' := by
  obtain ⟨m, lv, h1, h2, h3, h4, h5, h6⟩ := h
  refine ⟨m, lv, hs.tag h3 h1, hs.tagOf h5.lt h2, hs.at h3 (by rw [h1]; rfl), ?_, ?_, ?_⟩
  · rw [plist_upd fr n i f hb]; exact h4.kept hs rfl
  · rw [pmap_upd fr at' i f hb]; exact h5.keptStep h2 hs rfl
  · intro j hj
    by_cases e : j = i
    · subst e; rw [upd_same]; exact hf
    · rw [upd_other _ _ e]; exact (h6 j hj).kept hs (by simp; exact e) (by simp; exact e)

theorem und_pmap : Try.prog.underlying 125 = some (.map 3 132) := by kernel_rfl
theorem info_pframe : (Try.prog.info? 132).map (fun i => (i.zero, i.size, i.bytes)) = some (some (.pointer none), 1, 8) := by kernel_rfl
theorem und_plist : Try.prog.underlying 126 = some (.slice 132) := by kernel_rfl

theorem pool_given (p : Nat) (w : World) (most : Nat) (h0 : w.cell? ⟨p, 1, none⟩ = some (.int .i64 most)) (hm : 0 < most) :
    Calls Try.prog 85 #[ptr p] w fun e w' => e = .returned (.bool true) ∧ w = w' := by
  have h1 : (0 : Int) < most := by omega
  go_enter Try.func85, Try.ntmps85
  go_wp2
  go_ret
  exact ⟨rfl, rfl⟩

/-- what a frame's cells read. -/
theorem FrameW.cell {w : World} {T : Tags} {i : Nat} {f : Fr} (h : FrameW w T i f) (o : Nat) : w.cell? ⟨f.blk, o, none⟩ = (frCells f)[o]? := cell_at h.2.1
theorem FrameW.froz {w : World} {T : Tags} {i : Nat} {f : Fr} (h : FrameW w T i f) (o : Nat) : w.frozen? ⟨f.blk, o, none⟩ = false := froz_at h.2.1

set_option maxHeartbeats 400000 in
/-- the frame that holds a page: pinned or not. -/
theorem pool_pinned (p d most n hand : Nat) (fr : Nat → Fr) (at' : Int → Option Nat) (page : Int) (w : World) (T : Tags) (h : PoolM w T p d most n hand fr at') (ha : ∀ k i, at' k = some i → i < n) :
    Calls Try.prog 95 #[ptr p, .int .i64 page] w fun e w' => w = w' ∧
      e = .returned (match at' page with | some i => if 0 < (fr i).pins then ptr (fr i).blk else .pointer none | none => .pointer none) := by
  obtain ⟨m, lv, h1, h2, h3, h4, h5, h6⟩ := h
  have c4 : w.cell? ⟨p, 4, none⟩ = some (.map (some m)) := by rw [cell_at h3]; rfl
  obtain ⟨i0, hi0, hz0, hz1, hz2⟩ := info_parts info_pframe
  have hl := run_lookup (P := Try.prog) (w := w) 125 3 132 und_pmap und_int hi0 hz0 h5 page false
  cases hp : at' page with
  | none =>
    simp only [hp, Option.map_none, Option.getD_none] at hl
    go_enter Try.func95, Try.ntmps95
    go_wp2
    go_ret
    exact ⟨rfl, rfl⟩
  | some i =>
    have hF := h6 i (ha _ _ hp)
    have k2 : w.cell? ⟨(fr i).blk, 2, none⟩ = some (.int .i64 (fr i).pins) := hF.cell 2
    simp only [hp, Option.map_some, Option.getD_some] at hl
    simp only [Bool.false_eq_true, if_false] at hl
    show Calls _ _ _ _ fun e w' => w = w' ∧ e = .returned (if 0 < (fr i).pins then ptr (fr i).blk else .pointer none)
    clear h6 hF h5 h4 h3 hp ha
    generalize (fr i).pins = pn at k2 ⊢
    generalize (fr i).blk = b at k2 hl ⊢
    by_cases hpin : 0 < pn
    · have hq : (0 : Int) < pn := by omega
      simp only [hpin, if_true]
      go_enter Try.func95, Try.ntmps95
      go_wp2
      go_ret
      exact ⟨rfl, rfl⟩
    · have hq : ¬ (0 : Int) < pn := by omega
      simp only [hpin, if_false]
      go_enter Try.func95, Try.ntmps95
      go_wp2
      go_ret
      exact ⟨rfl, rfl⟩

end Go.Proofs.Ytiolpfneppchnaa
